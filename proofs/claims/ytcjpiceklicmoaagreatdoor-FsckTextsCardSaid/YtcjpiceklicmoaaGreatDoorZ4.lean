/- Layer 11: what its functions do (numbers). -/
import Derived.KernelRfl
import Derived.Test.YtcjpiceklicmoaaGreatDoorSlD
import Derived.Test.YtcjpiceklicmoaaGreatDoorSlb
import Derived.Test.YtcjpiceklicmoaaGreatDoorZ3
namespace Go.SL
open Go.Proofs
set_option linter.unusedVariables false
set_option linter.unusedSimpArgs false
set_option maxRecDepth 10000
attribute [local irreducible] W WO SV OW SW Tri Ent Tk Has Src SrcK DA DB RdS Own

theorem not_pow : ∀ s, s < 8 → ∀ i, i < 8 → (255 - 2 ^ s).testBit i = !decide (i = s) := by decide
theorem pow_lt : ∀ s, s < 8 → 2 ^ s < 256 := by decide
theorem u8_shl1 {s : Int} (h0 : 0 ≤ s) (h1 : s < 8) : IntKind.wrap .u8 (1 * 2 ^ (min s.toNat (IntKind.bits .u8))) = ((2 ^ s.toNat : Nat) : Int) := by
  have := pow_lt s.toNat (by omega)
  rw [u8bits, Nat.min_eq_left (by omega), Int.one_mul]
  have e : (2 : Int) ^ s.toNat = ((2 ^ s.toNat : Nat) : Int) := by norm_cast
  rw [e]; clear e; generalize 2 ^ s.toNat = y at *; exact u8w (by omega) (by omega)
theorem u8_andNot {a b : Int} (x y : Nat) (ha : a = x) (hb : b = y) (hx : x < 256) (hy : y < 256) :
    IntKind.wrap .u8 (((a % 2 ^ IntKind.bits .u8).toNat &&& (2 ^ IntKind.bits .u8 - 1 - (b % 2 ^ IntKind.bits .u8).toNat) : Nat) : Int) = ((x &&& (255 - y) : Nat) : Int) := by
  subst ha; subst hb
  have e1 : ((x : Int) % 2 ^ IntKind.bits .u8).toNat = x := by rw [u8bits]; omega
  have e2 : ((y : Int) % 2 ^ IntKind.bits .u8).toNat = y := by rw [u8bits]; omega
  rw [e1, e2]
  have := Nat.and_le_left (n := x) (m := 255 - y)
  rw [show 2 ^ IntKind.bits .u8 - 1 = 255 from rfl]
  exact u8w (by omega) (by omega)
theorem u8_or {a b : Int} (x y : Nat) (ha : a = x) (hb : b = y) (hx : x < 256) (hy : y < 256) :
    IntKind.wrap .u8 (((a % 2 ^ IntKind.bits .u8).toNat ||| (b % 2 ^ IntKind.bits .u8).toNat : Nat) : Int) = ((x ||| y : Nat) : Int) := by
  subst ha; subst hb
  have e1 : ((x : Int) % 2 ^ IntKind.bits .u8).toNat = x := by rw [u8bits]; omega
  have e2 : ((y : Int) % 2 ^ IntKind.bits .u8).toNat = y := by rw [u8bits]; omega
  rw [e1, e2]
  have : x ||| y < 2 ^ 8 := Nat.or_lt_two_pow hx hy
  exact u8w (by omega) (by omega)
/-- One block's bit, let in or out. -/
def clrB (bs : List Nat) (k : Nat) : List Nat := bs.set (k / 8) (bs.getD (k / 8) 0 &&& (255 - 2 ^ (k % 8)))
def addB (bs : List Nat) (k : Nat) : List Nat := bs.set (k / 8) (bs.getD (k / 8) 0 ||| 2 ^ (k % 8))
theorem okB_set {bs : List Nat} (ok : OkB bs) (i : Nat) {y : Nat} (hy : y < 256) : OkB (bs.set i y) := by
  intro x hx
  rcases List.mem_or_eq_of_mem_set hx with h | h
  · exact ok x h
  · omega
theorem okB_clr {bs : List Nat} (ok : OkB bs) (k : Nat) : OkB (clrB bs k) := okB_set ok _ (by have := ok.get (k / 8); have := Nat.and_le_left (n := bs.getD (k / 8) 0) (m := 255 - 2 ^ (k % 8)); omega)
theorem okB_add {bs : List Nat} (ok : OkB bs) (k : Nat) : OkB (addB bs k) := okB_set ok _ (Nat.or_lt_two_pow (n := 8) (ok.get _) (pow_lt _ (by omega)))
theorem bitB_set {bs : List Nat} {i y j : Nat} (hi : i < bs.length) : bitB (bs.set i y) j = if j / 8 = i then y.testBit (j % 8) else bitB bs j := by
  unfold bitB
  simp only [List.getD_eq_getElem?_getD, List.getElem?_set]
  by_cases h : i = j / 8
  · subst h; simp [hi]
  · have h' : ¬ j / 8 = i := fun e => h e.symm
    simp [h, h']
theorem bitB_clr {bs : List Nat} {k j : Nat} (hk : k / 8 < bs.length) : bitB (clrB bs k) j = (bitB bs j && !decide (j = k)) := by
  unfold clrB
  rw [bitB_set hk]
  by_cases h : j / 8 = k / 8
  · rw [if_pos h, Nat.testBit_and, not_pow _ (by omega) _ (by omega)]
    unfold bitB
    rw [h]
    congr 2
    exact decide_eq_decide.2 (by omega)
  · rw [if_neg h]
    have : ¬ j = k := fun e => h (by rw [e])
    simp [this]
theorem bitB_add {bs : List Nat} {k j : Nat} (hk : k / 8 < bs.length) : bitB (addB bs k) j = (bitB bs j || decide (j = k)) := by
  unfold addB
  rw [bitB_set hk]
  by_cases h : j / 8 = k / 8
  · rw [if_pos h, Nat.testBit_or, Nat.testBit_two_pow]
    unfold bitB
    rw [h]
    congr 1
    exact decide_eq_decide.2 (by omega)
  · rw [if_neg h]
    have : ¬ j = k := fun e => h (by rw [e])
    simp [this]
theorem map_set_u8 (bs : List Nat) (i y : Nat) : (bs.map u8).set i (u8 y) = (bs.set i y).map u8 := by rw [List.map_set]

/-- Is block k in the run? -/
def inRun (n : Nat) (from_ many : Int) (k : Nat) : Prop := k < n ∧ from_ ≤ k ∧ (from_ < 0 → (k : Int) < max 0 many + from_) ∧ (0 ≤ from_ → (k : Int) - from_ < many)
def Run2 (bs bs' : List Nat) (p : Nat → Prop) (use : Bool) : Prop := bs'.length = bs.length ∧ OkB bs' ∧ ∀ k, (p k → bitB bs' k = use) ∧ (¬ p k → bitB bs' k = bitB bs k)

end Go.SL

/- Layer 11: what its functions do (2). -/
namespace Go.SL
open Go.Proofs
set_option linter.unusedVariables false
set_option linter.unusedSimpArgs false
set_option maxRecDepth 10000
attribute [local irreducible] W WO SV OW SW Tri Ent Tk Has Src SrcK DA DB RdS Own

theorem bm_set (a : Option Addr) (c : Nat) (bs : List Nat) (n : Nat) (from_ many : Int) (use : Bool) (L : List HP) (h0 : bs.length ≤ 1000) (hn : n ≤ 8 * bs.length) (ok : OkB bs) (r : RdS 1 a bs.length (bs.map u8) L)
    (hf : -9223372036854775808 ≤ from_ ∧ from_ ≤ 9223372036854775807) (hm : -9223372036854775808 ≤ many ∧ many ≤ 9223372036854775807) :
    TriE Tryz.prog 139 #[BV a c bs n, .int .i64 from_, .int .i64 many, .bool use]
      (fun v M => ∃ a' c' bs', Run2 bs bs' (inRun n from_ many) use ∧ v = BV a' c' bs' n ∧ SomeA a' bs'.length ∧ M = OB a' c' bs' :: L) L := by
  refine Tri.of (N := 60) (args := [BV a c bs n, .int .i64 from_, .int .i64 many, .bool use]) Tryz.func139 rfl rfl rfl ?_
  refine go ?_
  intro b4
  refine go ?_
  intro b8
  refine go ?_
  refine W.drawB #[0, 1, 0, 4, 15, 0, 63] [pts b4 (.cells [Value.slice a bs.length c, .int .i64 n].toArray 30)] (pts b8 (.cells [Value.slice none 0 0, .int .i64 0].toArray 30) :: L) rfl (by kernel_rfl) (by kernel_rfl) (by kernel_rfl) ent ?_
  refine go ?_
  refine DB.callE (vs := [BV a c bs n]) Tryz.func86 rfl rfl rfl rfl hl hl (bm_Bytes a c bs n _ h0 (RdS.cons (RdS.cons r))) ?_
  rintro v M1 ⟨a', c', rfl, ha', rfl⟩
  refine ⟨[], OB a' c' bs :: pts b8 (.cells [Value.slice none 0 0, .int .i64 0].toArray 30) :: L, ent, ?_⟩
  refine go ?_
  refine DB.alloc rfl ?_
  intro b9
  refine DB.v rfl rfl rfl hl hl ?_
  refine SV.store rfl rfl cel rfl rfl rfl frz le0 nl ?_
  refine ⟨[], pts b9 (.cells [Value.slice a' bs.length c', .int .i64 n].toArray 30) :: OB a' c' bs :: pts b8 (.cells [Value.slice none 0 0, .int .i64 0].toArray 30) :: L, ent, ?_⟩
  refine go ?_
  refine ⟨pts b9 (.cells [Value.slice a' bs.length c', .int .i64 n].toArray 30) :: OB a' c' bs :: pts b8 (.cells [Value.slice none 0 0, .int .i64 0].toArray 30) :: pts b4 (.cells [Value.slice a bs.length c, .int .i64 n].toArray 30) :: L, ent, ?_⟩
  refine go ?_
  refine WO.sv rfl ?_
  refine SV.lss rfl rfl ?_
  refine go ?_
  refine W.cut 3932166 rfl (fun s : Nat × Int => [(1, .int .i64 s.1), (2, .int .i64 s.2)]) (fun _ => pts b9 (.cells [Value.slice a' bs.length c', .int .i64 n].toArray 30) :: OB a' c' bs :: pts b8 (.cells [Value.slice none 0 0, .int .i64 0].toArray 30) :: pts b4 (.cells [Value.slice a bs.length c, .int .i64 n].toArray 30) :: L)
    (fun s => (∀ k : Nat, inRun n from_ many k ↔ k < n ∧ s.1 ≤ k ∧ (k : Int) - s.1 < s.2) ∧ s.1 ≤ 9223372036854775807 ∧ -9223372036854775808 ≤ s.2 ∧ s.2 ≤ 9223372036854775807) ?_ ?_
  · refine W.if rfl ?_ ?_
    · intro h1
      refine go ?_
      exact ⟨(0, max 0 many + from_), ⟨rfl, rfl, trivial⟩, rfl, ⟨fun k => by simp only [inRun]; omega, by simp, by simp only []; omega, by simp only []; omega⟩, ent⟩
    · intro h1
      refine go ?_
      exact ⟨(from_.toNat, many), ⟨by show Value.int .i64 from_ = _; rw [Int.toNat_of_nonneg (by omega)], rfl, trivial⟩, rfl, ⟨fun k => by simp only [inRun]; omega, by simp only []; omega, by simp only []; omega, by simp only []; omega⟩, ent⟩
  rintro ⟨F, M⟩ bg ⟨hr, hF, hM1, hM2⟩
  dsimp only at hr hF hM1 hM2 ⊢
  refine go ?_
  refine W.loopS 576460752295035904 rfl (fun s : Nat × List Nat => [(10, .int .i64 s.1)])
    (fun s => pts b9 (.cells [Value.slice a' bs.length c', .int .i64 n].toArray 30) :: Own 5 1 (.slice a' bs.length c') bs.length (s.2.map u8) :: pts b8 (.cells [Value.slice none 0 0, .int .i64 0].toArray 30) :: pts b4 (.cells [Value.slice a bs.length c, .int .i64 n].toArray 30) :: L)
    (fun s => F ≤ s.1 ∧ (s.1 = F ∨ s.1 ≤ n) ∧ (F < s.1 → (s.1 : Int) - F ≤ M) ∧ s.2.length = bs.length ∧ OkB s.2 ∧ ∀ j, bitB s.2 j = if F ≤ j ∧ j < s.1 then use else bitB bs j) (fun s => n - s.1) (F, bs)
    ⟨rfl, trivial⟩ ⟨Nat.le_refl _, .inl rfl, fun h => absurd h (Nat.lt_irrefl _), rfl, ok, fun j => by rw [if_neg (by dsimp only; omega)]⟩ (fun _ _ x => x) ?_
  rintro ⟨k, cur⟩ bg2 ⟨h1, h2, h3, h4, h5, h6⟩
  dsimp only at h1 h2 h3 h4 h5 h6 ⊢
  have done : (n ≤ k ∨ M ≤ (k : Int) - F) → Run2 bs cur (inRun n from_ many) use := by
    intro hd
    refine ⟨h4, h5, fun j => ⟨fun hj => ?_, fun hj => ?_⟩⟩
    · rw [hr] at hj; rw [h6, if_pos (by omega)]
    · rw [hr] at hj
      rw [h6]
      by_cases e : F ≤ j ∧ j < k
      · exfalso; apply hj; omega
      · rw [if_neg e]
  have e8 : ((k : Int) / 8).toNat = k / 8 := by omega
  have em : ((k : Int) % 8).toNat = k % 8 := by omega
  refine go ?_
  refine WO.sv rfl ?_
  refine SV.lssC rfl rfl ?_ ?_
  · intro hk
    refine go ?_
    refine WO.sv rfl ?_
    refine SV.lssC rfl rfl ?_ ?_
    · intro hm2
      obtain ⟨b, rfl⟩ := ha' (by omega)
      refine go ?_
      have hlt : k / 8 < bs.length := by omega
      refine W.drawA rfl (by kernel_rfl) (by kernel_rfl) ?_
      refine go ?_
      have hx := h5.get (k / 8)
      have hy := pow_lt (k % 8) (by omega)
      refine DA.q (v := u8 (cur.getD (k / 8) 0)) rfl rfl (SV.loadR (k / 8) rfl (RdS.own tk ha' (by simp [h4])) (by omega) (getu (by omega)) eqq) ?_
      refine go ?_
      refine DA.q (v := u8 (2 ^ (k % 8))) rfl rfl (SV.shl rfl rfl (by omega) (by rw [u8_shl1 (by omega) (by omega), em]) eqq) ?_
      refine DA.q (v := u8 (cur.getD (k / 8) 0 &&& (255 - 2 ^ (k % 8)))) rfl rfl (SV.bandNot rfl rfl (u8_andNot _ _ rfl rfl hx hy) eqq) ?_
      refine go ?_
      refine DA.v rfl rfl rfl ?_
      refine SV.storeO (k / 8) (xs' := (clrB cur k).map u8) rfl tk (by omega) rfl rfl (by simp; omega) (map_set_u8 _ _ _) ?_
      refine go ?_
      have hc := okB_clr h5 k
      have hcl : (clrB cur k).length = cur.length := by simp [clrB]
      refine W.cond rfl (fun e => ?_) (fun e => ?_)
      · subst e
        refine W.drawA rfl (by kernel_rfl) (by kernel_rfl) ?_
        refine go ?_
        have hx := hc.get (k / 8)
        refine DA.q (v := u8 ((clrB cur k).getD (k / 8) 0)) rfl rfl (SV.loadR (k / 8) rfl (RdS.own tk ha' (by simp [hcl, h4])) (by omega) (getu (by omega)) eqq) ?_
        refine go ?_
        refine DA.q (v := u8 (2 ^ (k % 8))) rfl rfl (SV.shl rfl rfl (by omega) (by rw [u8_shl1 (by omega) (by omega), em]) eqq) ?_
        refine DA.q (v := u8 ((clrB cur k).getD (k / 8) 0 ||| 2 ^ (k % 8))) rfl rfl (SV.bor rfl rfl (u8_or _ _ rfl rfl hx hy) eqq) ?_
        refine go ?_
        refine DA.v rfl rfl rfl ?_
        refine SV.storeO (k / 8) (xs' := (addB (clrB cur k) k).map u8) rfl tk (by omega) rfl rfl (by simp; omega) (map_set_u8 _ _ _) ?_
        refine go ?_
        refine ⟨(k + 1, addB (clrB cur k) k), ⟨rfl, trivial⟩, rfl, ⟨by dsimp only; omega, by dsimp only; omega, by dsimp only; omega, ?_, okB_add hc k, fun j => ?_⟩, by dsimp only; omega, Ent.app ent⟩
        · dsimp only; rw [addB, List.length_set, hcl, h4]
        · dsimp only
          rw [bitB_add (by omega), bitB_clr (by omega), h6]
          by_cases e1 : j = k
          · rw [if_pos (c := F ≤ j ∧ j < k + 1) (by omega)]; simp [e1]
          · by_cases e2 : F ≤ j ∧ j < k
            · rw [if_pos e2, if_pos (by omega)]; simp
            · rw [if_neg e2, if_neg (by omega)]; simp [e1]
      · subst e
        refine go ?_
        refine ⟨(k + 1, clrB cur k), ⟨rfl, trivial⟩, rfl, ⟨by dsimp only; omega, by dsimp only; omega, by dsimp only; omega, by dsimp only; omega, hc, fun j => ?_⟩, by dsimp only; omega, Ent.app ent⟩
        dsimp only
        rw [bitB_clr (by omega), h6]
        by_cases e1 : j = k
        · rw [if_pos (c := F ≤ j ∧ j < k + 1) (by omega)]; simp [e1]
        · by_cases e2 : F ≤ j ∧ j < k
          · rw [if_pos e2, if_pos (by omega)]; simp
          · rw [if_neg e2, if_neg (by omega)]; simp [e1]
    · intro hm2
      refine go ?_
      have hd := done (.inr (by omega))
      refine ⟨rfl, [_], ⟨Res.cell rfl le0 nl, trivial⟩, OB a' c' cur :: L, ?_, a', c', cur, hd, ?_, by rw [h4]; exact ha', rfl⟩
      · simp only [OB, h4]; exact ent
      · simp only [BV, h4]; rfl
  · intro hk
    refine go ?_
    have hd := done (.inl (by omega))
    refine ⟨rfl, [_], ⟨Res.cell rfl le0 nl, trivial⟩, OB a' c' cur :: L, ?_, a', c', cur, hd, ?_, by rw [h4]; exact ha', rfl⟩
    · simp only [OB, h4]; exact ent
    · simp only [BV, h4]; rfl
end Go.SL

/- Layer 11: what its functions do (3). -/
namespace Go.SL
open Go.Proofs
set_option linter.unusedVariables false
set_option linter.unusedSimpArgs false
set_option maxRecDepth 10000

attribute [local irreducible] W WO SV OW SW Tri Ent Tk Has Src SrcK DA DB RdS Own

theorem bm_Of (a : Option Addr) (c : Nat) (src : List Nat) (n : Int) (L : List HP) (h0 : src.length ≤ 1000000) (ok : OkB src) (r : RdS 1 a src.length (src.map u8) L) :
    TriE Tryz.prog 85 #[.slice a src.length c, .int .i64 n]
      (fun v M => ∃ a' c' bs, bs.length = (clip n + 7) / 8 ∧ OkB bs ∧ (∀ k, bitB bs k = (decide (k < clip n) && bitB src k)) ∧ v = BV a' c' bs (clip n) ∧ SomeA a' bs.length ∧ M = OB a' c' bs :: L) L := by
  refine Tri.of (N := 32) (args := [.slice a src.length c, .int .i64 n]) Tryz.func85 rfl rfl rfl ?_
  refine go ?_
  intro b4
  refine go ?_
  refine WO.callE (vs := [.int .i64 n]) Tryz.func120 rfl rfl rfl rfl (bm_NewP n _) ?_
  rintro v M ⟨b, rfl, rfl⟩
  have hN : clip n ≤ 4096 := by unfold clip; omega
  refine go ?_
  intro b5
  refine go ?_
  generalize hm : (clip n + 7) / 8 = m
  refine WO.sv rfl ?_
  refine SV.copyP rfl rfl (RdS.srcK (RdS.cons (RdS.cons (RdS.cons r)))) (by simp [u8, isCell]) (by simp) (.inl (Nat.le_refl _)) (l' := (src.take m ++ List.replicate (m - src.length) 0).map u8) ?_ (by simp; omega) rfl ?_
  · simp only [Nat.mul_one, List.map_append, List.map_take, List.map_replicate, List.drop_replicate, List.length_take, List.length_map]
    rw [show min (min src.length m) src.length = min src.length m by omega, show m - min src.length m = m - src.length by omega]
    congr 1
    by_cases h : src.length ≤ m
    · rw [Nat.min_eq_left h, List.take_of_length_le (by simp), List.take_of_length_le (by simpa using h)]
    · rw [Nat.min_eq_right (by omega)]
  have hcl : (src.take m ++ List.replicate (m - src.length) 0).length = m := by simp; omega
  have hco : OkB (src.take m ++ List.replicate (m - src.length) 0) := by
    intro x hx
    rcases List.mem_append.1 hx with h | h
    · exact ok x (List.mem_of_mem_take h)
    · have := (List.mem_replicate.1 h).2; omega
  have hcb : ∀ k, k / 8 < m → bitB (src.take m ++ List.replicate (m - src.length) 0) k = bitB src k := by
    intro k hk
    unfold bitB
    congr 1
    simp only [List.getD_eq_getElem?_getD, List.getElem?_append, List.getElem?_take, List.getElem?_replicate, List.length_take]
    by_cases h : k / 8 < src.length
    · rw [if_pos (by omega), if_pos hk]
    · rw [if_neg (by omega), List.getElem?_eq_none (by omega)]; split <;> rfl
  have hcz : ∀ k, m ≤ k / 8 → bitB (src.take m ++ List.replicate (m - src.length) 0) k = false := by
    intro k hk
    unfold bitB
    rw [List.getD_eq_getElem?_getD, List.getElem?_eq_none (by omega)]
    simp
  generalize src.take m ++ List.replicate (m - src.length) 0 = cur at hcl hco hcb hcz ⊢
  refine go ?_
  refine WO.sv rfl ?_
  refine SV.gtrC rfl rfl ?_ ?_
  · intro h1
    refine go ?_
    refine W.drawA rfl (by kernel_rfl) (by kernel_rfl) ?_
    refine go ?_
    have hx := hco.get (m - 1)
    have e8 : ((clip n : Int) % 8).toNat = clip n % 8 := by omega
    have hp := pow_lt (clip n % 8) (by omega)
    have hp0 : 0 < 2 ^ (clip n % 8) := Nat.two_pow_pos _
    refine DA.q (v := u8 (cur.getD (m - 1) 0)) rfl rfl (SV.load rfl (by rw [lget_eq, show 0 + ((m : Int) - 1).toNat * 1 = m - 1 by omega]; exact getu (by omega)) eqq) ?_
    refine go ?_
    refine DA.q (v := u8 (2 ^ (clip n % 8))) rfl rfl (SV.shl rfl rfl (by omega) (by rw [u8_shl1 (by omega) (by omega), e8]) eqq) ?_
    refine DA.q (v := u8 (2 ^ (clip n % 8) - 1)) rfl rfl (SV.sub rfl rfl (by generalize 2 ^ (clip n % 8) = y at *; rw [u8w (by omega) (by omega)]; omega) eqq) ?_
    refine DA.q (v := u8 (cur.getD (m - 1) 0 &&& (2 ^ (clip n % 8) - 1))) rfl rfl (SV.band rfl rfl (u8_and _ _ rfl rfl hx (by omega)) eqq) ?_
    refine go ?_
    refine DA.v rfl rfl rfl ?_
    refine SV.storeS (v := u8 (cur.getD (m - 1) 0 &&& (2 ^ (clip n % 8) - 1))) rfl rfl rfl (.inl (Nat.le_refl _)) (by simp; omega) ?_
    rw [show 0 + ((m : Int) - 1).toNat * 1 = m - 1 by omega, map_set_u8]
    have hl2 : (cur.set (m - 1) (cur.getD (m - 1) 0 &&& (2 ^ (clip n % 8) - 1))).length = m := by rw [List.length_set, hcl]
    have ho2 : OkB (cur.set (m - 1) (cur.getD (m - 1) 0 &&& (2 ^ (clip n % 8) - 1))) := okB_set hco _ (by have := Nat.and_le_left (n := cur.getD (m - 1) 0) (m := 2 ^ (clip n % 8) - 1); omega)
    have hb2 : ∀ k, bitB (cur.set (m - 1) (cur.getD (m - 1) 0 &&& (2 ^ (clip n % 8) - 1))) k = (decide (k < clip n) && bitB src k) := by
      intro k
      rw [bitB_set (by omega)]
      by_cases e : k / 8 = m - 1
      · rw [if_pos e, Nat.testBit_and, Nat.testBit_two_pow_sub_one]
        have h2 := hcb k (by omega)
        unfold bitB at h2 ⊢
        rw [← e, h2, Bool.and_comm]
        congr 1
        exact decide_eq_decide.2 (by omega)
      · rw [if_neg e]
        by_cases h : k / 8 < m
        · rw [hcb k h, decide_eq_true (by omega), Bool.true_and]
        · rw [hcz k (by omega), decide_eq_false (by omega), Bool.false_and]
    generalize cur.set (m - 1) (cur.getD (m - 1) 0 &&& (2 ^ (clip n % 8) - 1)) = fin at hl2 ho2 hb2 ⊢
    refine go ?_
    refine ⟨rfl, [_], ⟨Res.cell rfl le0 nl, trivial⟩, OB (some ⟨b, 0, none⟩) m fin :: L, ?_, some ⟨b, 0, none⟩, m, fin, hl2, ho2, hb2, ?_, fun _ => ⟨b, rfl⟩, rfl⟩
    · refine Ent.trans (B := pts b (.cells (fin.map u8).toArray 5) :: L) ent ?_
      have := ent_own (E := 5) (sz := 1) (n := m) (b := b) (xs := fin.map u8) (L := L) (by simp [hl2])
      simp only [OB, hl2]; exact this
    · simp only [BV, hl2]; rfl
  · intro h1
    refine go ?_
    have hb2 : ∀ k, bitB cur k = (decide (k < clip n) && bitB src k) := by
      intro k
      by_cases h : k / 8 < m
      · rw [hcb k h, decide_eq_true (by omega), Bool.true_and]
      · rw [hcz k (by omega), decide_eq_false (by omega), Bool.false_and]
    refine ⟨rfl, [_], ⟨Res.cell rfl le0 nl, trivial⟩, OB (some ⟨b, 0, none⟩) m cur :: L, ?_, some ⟨b, 0, none⟩, m, cur, hcl, hco, hb2, ?_, fun _ => ⟨b, rfl⟩, rfl⟩
    · refine Ent.trans (B := pts b (.cells (cur.map u8).toArray 5) :: L) ent ?_
      have := ent_own (E := 5) (sz := 1) (n := m) (b := b) (xs := cur.map u8) (L := L) (by simp [hcl])
      simp only [OB, hcl]; exact this
    · simp only [BV, hcl]; rfl
end Go.SL

/- Layer 11: what its functions do (4): the runs. -/
namespace Go.SL
open Go.Proofs
set_option linter.unusedVariables false
set_option linter.unusedSimpArgs false
set_option maxRecDepth 10000
attribute [local irreducible] W WO SV OW SW Tri Ent Tk Has Src SrcK DA DB RdS Own

/-- r is the least run of so many that p lets free (-1: there is none). -/
def RunIs (p : Nat → Bool) (n : Nat) (many r : Int) : Prop :=
  (r = -1 ∧ (many < 1 ∨ ∀ k : Nat, (k : Int) + many ≤ n → ∃ j : Nat, (j : Int) < many ∧ p (k + j) = true)) ∨
  (0 ≤ r ∧ 1 ≤ many ∧ r + many ≤ n ∧ (∀ j : Nat, (j : Int) < many → p (r.toNat + j) = false) ∧ ∀ k : Nat, (k : Int) < r → ∃ j : Nat, (j : Int) < many ∧ p (k + j) = true)

theorem bm_Run (a : Option Addr) (c : Nat) (bs : List Nat) (n : Nat) (many : Int) (L : List HP) (h0 : bs.length ≤ 1000) (hn : n ≤ 8 * bs.length) (ok : OkB bs) (r : RdS 1 a bs.length (bs.map u8) L)
    (hm : -9223372036854775808 ≤ many ∧ many ≤ 9223372036854775807) :
    TriE Tryz.prog 143 #[BV a c bs n, .int .i64 many] (fun v M => ∃ x, RunIs (bitB bs) n many x ∧ v = .int .i64 x ∧ M = L) L := by
  refine Tri.of (N := 31) (args := [BV a c bs n, .int .i64 many]) Tryz.func143 rfl rfl rfl ?_
  refine go ?_
  intro b2
  refine go ?_
  refine W.scope ?_
  refine go ?_
  refine WO.sv rfl ?_
  refine SV.lssC rfl rfl ?_ ?_
  · intro h1
    refine go ?_
    exact ⟨rfl, [_], ⟨Res.tmp rfl, trivial⟩, L, ent, -1, .inl ⟨rfl, .inl h1⟩, rfl, rfl⟩
  intro h1
  refine go ?_
  refine W.loopS 2147483248 rfl (fun s : Nat => [(5, .int .i64 s)]) (fun _ => pts b2 (.cells [Value.slice a bs.length c, .int .i64 n].toArray 30) :: L)
    (fun s => s ≤ n ∧ ∀ k : Nat, k < s → (k : Int) + many ≤ n → ∃ j : Nat, (j : Int) < many ∧ bitB bs (k + j) = true) (fun s => n - s) 0 ⟨rfl, trivial⟩ ⟨Nat.zero_le _, fun k h => absurd h (Nat.not_lt_zero _)⟩ (fun _ _ x => x) ?_
  rintro s bg ⟨hs, hq⟩
  refine go ?_
  refine WO.sv rfl ?_
  refine SV.leqC rfl rfl ?_ ?_
  · intro h2
    refine go ?_
    refine W.loopS 1073479776 rfl (fun k : Nat => [(5, .int .i64 s), (18, .int .i64 k)]) (fun _ => pts b2 (.cells [Value.slice a bs.length c, .int .i64 n].toArray 30) :: L)
      (fun k => (k : Int) ≤ many ∧ ∀ j : Nat, j < k → bitB bs (s + j) = false) (fun k => many.toNat - k) 0 ⟨rfl, rfl, trivial⟩ ⟨by omega, fun k h => absurd h (Nat.not_lt_zero _)⟩ (fun _ _ x => x) ?_
    rintro k bg2 ⟨hk, hf⟩
    refine go ?_
    refine WO.sv rfl ?_
    refine SV.lssC rfl rfl ?_ ?_
    · intro h3
      refine go ?_
      refine WO.callE (vs := [BV a c bs n, .int .i64 (s + k)]) Tryz.func115 rfl rfl rfl rfl (bm_Has a c bs n (s + k) _ h0 hn ok (RdS.cons r)) ?_
      rintro v M ⟨rfl, rfl⟩
      have hh : hasB bs n (s + k) = bitB bs (s + k) := by
        unfold hasB
        rw [decide_eq_true (by omega), decide_eq_true (by omega), Bool.true_and, Bool.true_and]; congr 1
      rw [hh]
      refine go ?_
      refine W.cond rfl (fun e => ?_) (fun e => ?_)
      · refine go ?_
        refine ⟨s + k + 1, ⟨by show Value.int .i64 _ = _; congr 1, trivial⟩, rfl, ⟨by omega, fun i hi hb => ?_⟩, by omega, fun _ _ x => x⟩
        by_cases h : i < s
        · exact hq i h hb
        · refine ⟨s + k - i, by omega, ?_⟩
          rw [show i + (s + k - i) = s + k by omega]; exact e
      · refine go ?_
        refine ⟨k + 1, ⟨rfl, by show Value.int .i64 _ = _; congr 1, trivial⟩, rfl, ⟨by omega, fun j hj => ?_⟩, by omega, fun _ _ x => x⟩
        by_cases h : j < k
        · exact hf j h
        · rw [show j = k by omega]; exact e
    · intro h3
      refine go ?_
      refine ⟨rfl, [_], ⟨Res.tmp rfl, trivial⟩, L, ent, s, .inr ⟨by omega, by omega, by omega, fun j hj => ?_, fun k hk => hq k (by omega) (by omega)⟩, rfl, rfl⟩
      rw [Int.toNat_natCast]; exact hf j (by omega)
  · intro h2
    refine go ?_
    refine ⟨rfl, [_], ⟨Res.tmp rfl, trivial⟩, L, ent, -1, .inl ⟨rfl, .inr fun k hk => hq k (by omega) hk⟩, rfl, rfl⟩
end Go.SL

/- Layer 11: what its functions do (5). -/
namespace Go.SL
open Go.Proofs
set_option linter.unusedVariables false
set_option linter.unusedSimpArgs false
set_option maxRecDepth 10000
set_option maxHeartbeats 2000000
attribute [local irreducible] W WO SV OW SW Tri Ent Tk Has Src SrcK DA DB RdS Own

theorem OB.rd {a : Option Addr} {c : Nat} {bs : List Nat} {L R : List HP} (t : Tk L (OB a c bs) R) (ha : SomeA a bs.length) : RdS 1 a bs.length (bs.map u8) L := RdS.own t ha (by simp)

theorem bm_With (a : Option Addr) (c : Nat) (bs : List Nat) (n : Nat) (from_ many : Int) (L : List HP) (h0 : bs.length ≤ 1000) (hn : n ≤ 8 * bs.length) (ok : OkB bs) (r : RdS 1 a bs.length (bs.map u8) L)
    (hf : -9223372036854775808 ≤ from_ ∧ from_ ≤ 9223372036854775807) (hm : -9223372036854775808 ≤ many ∧ many ≤ 9223372036854775807) :
    TriE Tryz.prog 116 #[BV a c bs n, .int .i64 from_, .int .i64 many]
      (fun v M => ∃ a' c' bs', Run2 bs bs' (inRun n from_ many) true ∧ v = BV a' c' bs' n ∧ SomeA a' bs'.length ∧ M = OB a' c' bs' :: L) L := by
  refine Tri.of (N := 11) (args := [BV a c bs n, .int .i64 from_, .int .i64 many]) Tryz.func116 rfl rfl rfl ?_
  refine go ?_
  intro b3
  refine go ?_
  intro b6
  refine go ?_
  refine WO.callE (vs := [BV a c bs n, .int .i64 from_, .int .i64 many, .bool true]) Tryz.func139 rfl rfl rfl rfl (bm_set a c bs n from_ many true _ h0 hn ok (RdS.cons (RdS.cons r)) hf hm) ?_
  rintro v M ⟨a', c', bs', h1, rfl, h2, rfl⟩
  refine go ?_
  exact ⟨rfl, [_], ⟨Res.cell rfl le0 nl, trivial⟩, _, ent, a', c', bs', h1, rfl, h2, rfl⟩
theorem bm_Without (a : Option Addr) (c : Nat) (bs : List Nat) (n : Nat) (from_ many : Int) (L : List HP) (h0 : bs.length ≤ 1000) (hn : n ≤ 8 * bs.length) (ok : OkB bs) (r : RdS 1 a bs.length (bs.map u8) L)
    (hf : -9223372036854775808 ≤ from_ ∧ from_ ≤ 9223372036854775807) (hm : -9223372036854775808 ≤ many ∧ many ≤ 9223372036854775807) :
    TriE Tryz.prog 87 #[BV a c bs n, .int .i64 from_, .int .i64 many]
      (fun v M => ∃ a' c' bs', Run2 bs bs' (inRun n from_ many) false ∧ v = BV a' c' bs' n ∧ SomeA a' bs'.length ∧ M = OB a' c' bs' :: L) L := by
  refine Tri.of (N := 11) (args := [BV a c bs n, .int .i64 from_, .int .i64 many]) Tryz.func87 rfl rfl rfl ?_
  refine go ?_
  intro b3
  refine go ?_
  intro b6
  refine go ?_
  refine WO.callE (vs := [BV a c bs n, .int .i64 from_, .int .i64 many, .bool false]) Tryz.func139 rfl rfl rfl rfl (bm_set a c bs n from_ many false _ h0 hn ok (RdS.cons (RdS.cons r)) hf hm) ?_
  rintro v M ⟨a', c', bs', h1, rfl, h2, rfl⟩
  refine go ?_
  exact ⟨rfl, [_], ⟨Res.cell rfl le0 nl, trivial⟩, _, ent, a', c', bs', h1, rfl, h2, rfl⟩

/-! the runs, plainly -/
theorem RunIs.uniq {p : Nat → Bool} {n : Nat} {many r r' : Int} (h : RunIs p n many r) (h' : RunIs p n many r') : r = r' := by
  have key : ∀ {r r' : Int}, RunIs p n many r → RunIs p n many r' → r < r' → False := by
    intro r r' h h' hlt
    rcases h with ⟨h1, h2⟩ | ⟨h1, h2, h3, h4, h5⟩
    · rcases h' with ⟨h1', _⟩ | ⟨h1', h2', h3', h4', h5'⟩
      · omega
      · rcases h2 with h2 | h2
        · omega
        · obtain ⟨j, hj, hp⟩ := h2 r'.toNat (by omega)
          rw [h4' j hj] at hp; cases hp
    · rcases h' with ⟨h1', _⟩ | ⟨h1', h2', h3', h4', h5'⟩
      · omega
      · obtain ⟨j, hj, hp⟩ := h5' r.toNat (by omega)
        rw [h4 j hj] at hp; cases hp
  rcases Int.lt_trichotomy r r' with h1 | h1 | h1
  · exact (key h h' h1).elim
  · exact h1
  · exact (key h' h h1).elim
theorem RunIs.congr {p q : Nat → Bool} {n : Nat} {many r : Int} (e : ∀ k, p k = q k) (h : RunIs p n many r) : RunIs q n many r := by
  have : p = q := funext e
  subst this; exact h

theorem r19_2 : RunIs (bitB [19]) 8 2 2 := by
  refine .inr ⟨by decide, by decide, by decide, fun j hj => ?_, fun k hk => ?_⟩
  · have : j = 0 ∨ j = 1 := by omega
    rcases this with rfl | rfl <;> decide
  · have : k = 0 ∨ k = 1 := by omega
    rcases this with rfl | rfl <;> exact ⟨0, by decide, by decide⟩
theorem r19_3 : RunIs (bitB [19]) 8 3 5 := by
  refine .inr ⟨by decide, by decide, by decide, fun j hj => ?_, fun k hk => ?_⟩
  · have : j = 0 ∨ j = 1 ∨ j = 2 := by omega
    rcases this with rfl | rfl | rfl <;> decide
  · have : k = 0 ∨ k = 1 ∨ k = 2 ∨ k = 3 ∨ k = 4 := by omega
    rcases this with rfl | rfl | rfl | rfl | rfl
    · exact ⟨0, by decide, by decide⟩
    · exact ⟨0, by decide, by decide⟩
    · exact ⟨2, by decide, by decide⟩
    · exact ⟨1, by decide, by decide⟩
    · exact ⟨0, by decide, by decide⟩
theorem r19_4 : RunIs (bitB [19]) 8 4 (-1) := by
  refine .inl ⟨rfl, .inr fun k hk => ?_⟩
  have : k = 0 ∨ k = 1 ∨ k = 2 ∨ k = 3 ∨ k = 4 := by omega
  rcases this with rfl | rfl | rfl | rfl | rfl
  · exact ⟨0, by decide, by decide⟩
  · exact ⟨0, by decide, by decide⟩
  · exact ⟨2, by decide, by decide⟩
  · exact ⟨1, by decide, by decide⟩
  · exact ⟨0, by decide, by decide⟩
theorem is19 {bs : List Nat} (hl : bs.length = 1) (ok : OkB bs) (hb : ∀ k, k < 8 → bitB bs k = (decide (k = 0) || decide (k = 1) || decide (k = 4))) : bs = [19] := by
  obtain ⟨x, rfl⟩ := List.length_eq_one_iff.1 hl
  have hx := ok x (List.mem_singleton.2 rfl)
  have key : ∀ x, x < 256 → (∀ k, k < 8 → x.testBit k = (decide (k = 0) || decide (k = 1) || decide (k = 4))) → x = 19 := by decide
  rw [key x hx fun k hk => by
    have := hb k hk
    unfold bitB at this
    rw [Nat.div_eq_of_lt hk, Nat.mod_eq_of_lt hk] at this
    exact this]
end Go.SL

/- Layer 13 (kv): the blocks of a store without keys. -/
namespace Go.SL
open Go.Proofs
set_option linter.unusedVariables false
set_option linter.unusedSimpArgs false
set_option linter.unusedSectionVars false
set_option maxRecDepth 10000
set_option maxHeartbeats 4000000
attribute [local irreducible] W WO SV OW SW Tri Ent Tk Has Src SrcK DA DB RdS Own MapH WetH
/-- What a store without keys says: which bytes are in use. -/
abbrev ixV (ua : Option Addr) (uc : Nat) (bs : Byt) (n : Nat) : Value := .agg #[.slice none 0 0, .slice ua bs.length uc, .int .i64 n]
/-- Two blocks in a row. -/
abbrev O2 (a : Option Addr) (c : Nat) (a1 : Option Addr) (c1 : Nat) (a2 : Option Addr) (c2 : Nat) : HP := Own 28 1 (.slice a 2 c) 2 [.slice a1 256 c1, .slice a2 256 c2]
theorem bm_BytesB (a : Option Addr) (c : Nat) (bs : Byt) (n : Int) (L : List HP) (h0 : bs.length ≤ 1000) (r : RdS 1 a bs.length (bs.map u8V) L) :
    TriE Tryz.prog 86 #[.agg #[.slice a bs.length c, .int .i64 n]] (fun v M => ∃ a' c', v = .slice a' bs.length c' ∧ SomeA a' bs.length ∧ M = OS a' c' bs :: L) L := by
  have e1 : (bs.map UInt8.toNat).length = bs.length := by simp
  have e2 : (bs.map UInt8.toNat).map u8 = bs.map u8V := by simp [u8, u8V]
  have h := bm_Bytes a c (bs.map UInt8.toNat) n L (by rw [e1]; exact h0) (by rw [e1, e2]; exact r)
  unfold BV at h
  rw [e1] at h
  refine TriE.mono h ?_
  rintro v M ⟨a', c', rfl, ha, rfl⟩
  refine ⟨a', c', rfl, ha, ?_⟩
  unfold OB OS
  rw [e1, e2]
theorem kv_meta0 (ua : Option Addr) (uc : Nat) (bs : Byt) (n : Nat) (L : List HP) (h1 : 1 ≤ bs.length) (h2 : bs.length ≤ 256) (r : RdS 1 ua bs.length (bs.map u8V) L) :
    TriE Tryz.prog 66 #[ixV ua uc bs n] (fun v M => ∃ a c a1 c1 a2 c2, v = .slice (some ⟨a, 0, none⟩) 2 c ∧ SomeA a1 256 ∧ SomeA a2 256 ∧ M = O2 (some ⟨a, 0, none⟩) c a1 c1 a2 c2 :: OS a1 c1 zero256 :: OS a2 c2 (padB bs) :: L) L := by
  refine Tri.ofD (N := 54) (args := [ixV ua uc bs n]) Tryz.func66 rfl rfl rfl ?_
  refine go ?_
  intro b1
  refine go ?_
  refine WO.sv rfl ?_
  refine SV.makeSlice2 (len := 2) (cp := 256) rfl rfl (by decide) (by decide) (by decide) (by decide) ?_
  intro b3
  refine go ?_
  refine W.drawB #[0, 0, 0, 4, 12, 28, 60, 0, 128, 384, 896, 125, 2173, 8191, 16383] [pts b1 (.cells [.slice none 0 0, .slice ua bs.length uc, .int .i64 n].toArray 32)] (Own 5 1 (.slice (some ⟨b3, 0, none⟩) 2 256) 2 (([0, 0] : Byt).map u8V) :: L) rfl (by kernel_rfl) (by kernel_rfl) (by kernel_rfl) ent ?_
  refine go ?_
  refine DB.q (v := .int .i64 0) rfl rfl hl (SV.shr rfl rfl (by decide) (by rfl) eqq) ?_
  refine go ?_
  refine DB.v rfl rfl rfl hl hl ?_
  refine SV.storeB 0 (u := 0) rfl tk rfl rfl (by decide) rfl ?_
  refine ⟨[], Own 5 1 (.slice (some ⟨b3, 0, none⟩) 2 256) 2 (([0, 0] : Byt).map u8V) :: L, ent, ?_⟩
  refine go ?_
  refine DB.v rfl rfl rfl hl hl ?_
  refine SV.storeB (s := [0, 0]) 1 (u := 0) rfl tk rfl rfl (by decide) rfl ?_
  refine ⟨[], Own 5 1 (.slice (some ⟨b3, 0, none⟩) 2 256) 2 (([0, 0] : Byt).map u8V) :: L, ent, ?_⟩
  refine go ?_
  refine ⟨pts b1 (.cells [.slice none 0 0, .slice ua bs.length uc, .int .i64 n].toArray 32) :: OS (some ⟨b3, 0, none⟩) 256 [0, 0] :: L, ent, ?_⟩
  refine go ?_
  refine W.loopS 1099478073384 rfl (fun _ : Unit => [(3, .slice (some ⟨b3, 0, none⟩) 2 256), (25, .int .i64 0)]) (fun _ => pts b1 (.cells [.slice none 0 0, .slice ua bs.length uc, .int .i64 n].toArray 32) :: OS (some ⟨b3, 0, none⟩) 256 [0, 0] :: L) (fun _ => True) (fun _ => 0) () ⟨rfl, rfl, trivial⟩ trivial (Ent.app ent) ?_
  intro _ bg _
  refine go ?_
  refine WO.callE (vs := [.slice (some ⟨b3, 0, none⟩) ([0, 0] : Byt).length 256]) Tryz.func121 rfl rfl rfl rfl (kv_padded (some ⟨b3, 0, none⟩) 256 [0, 0] _ (by decide) (OS.rd (s := [0, 0]) tk (fun _ => ⟨b3, rfl⟩))) ?_
  rintro v M ⟨a1, c1, rfl, ha1, rfl⟩
  rw [show padB [0, 0] = zero256 from rfl] at *
  rw [show zero256.length = 256 from rfl] at *
  refine go ?_
  refine WO.sv rfl ?_
  refine SV.lit rfl rfl rfl parts rfl nl ?_
  intro rb
  refine go ?_
  intro b6
  refine go ?_
  refine WO.callE (vs := [.agg #[.slice ua bs.length uc, .int .i64 n]]) Tryz.func86 rfl rfl rfl rfl (bm_BytesB ua uc bs n _ (by omega) (r.ent ent)) ?_
  rintro v M ⟨a7, c7, rfl, ha7, rfl⟩
  refine go ?_
  refine WO.ownCap (E := 5) (sz := 1) (n := bs.length) (xs := bs.map u8V) (show Tk _ (OS a7 c7 bs) _ from tk) fun hcap => ?_
  refine WO.callE (vs := [.slice a7 bs.length c7, .int .i64 256]) Tryz.func122 rfl rfl rfl rfl (sl_ChunkB a7 c7 bs.length _) ?_
  rintro v M ⟨b8, b9, rfl, rfl⟩
  refine go ?_
  obtain ⟨b7, rfl⟩ := ha7 (by omega)
  refine W.rangeF (lb := [.pointer (some ⟨b8, 0, none⟩), .pointer (some ⟨b9, 0, none⟩)]) rfl Tryz.func160 rfl rfl ?_
  intro D l r0 hrec
  generalize hC : SL.conj (OS a1 c1 zero256 :: L) = C
  generalize hJ : (fun i : Nat => if i = 0 then SL.conj [pts l (.loop r0), pts b6 (.cells [.slice (some ⟨rb, 0, none⟩) 1 1].toArray 121), pts rb (.cells [.slice a1 256 c1].toArray 28), OS (some ⟨b7, 0, none⟩) c7 bs, C]
    else SL.hex fun q : Nat × Nat × Option Addr × Nat => SL.conj [hpure (SomeA q.2.2.1 256), O2 (some ⟨q.1, 0, none⟩) q.2.1 a1 c1 q.2.2.1 q.2.2.2, OS q.2.2.1 q.2.2.2 (padB bs), pts l (.loop r0), pts b6 (.cells [.slice (some ⟨q.1, 0, none⟩) 2 q.2.1].toArray 121), C]) = J
  have hJ0 : J 0 = SL.conj [pts l (.loop r0), pts b6 (.cells [.slice (some ⟨rb, 0, none⟩) 1 1].toArray 121), pts rb (.cells [.slice a1 256 c1].toArray 28), OS (some ⟨b7, 0, none⟩) c7 bs, C] := by rw [← hJ]; rfl
  have hJ1 : J 1 = SL.hex fun q : Nat × Nat × Option Addr × Nat => SL.conj [hpure (SomeA q.2.2.1 256), O2 (some ⟨q.1, 0, none⟩) q.2.1 a1 c1 q.2.2.1 q.2.2.2, OS q.2.2.1 q.2.2.2 (padB bs), pts l (.loop r0), pts b6 (.cells [.slice (some ⟨q.1, 0, none⟩) 2 q.2.1].toArray 121), C] := by rw [← hJ]; rfl
  have hm1 : min 256 (bs.length - 0 * 256) = bs.length := by omega
  refine TriE.ent (A := [pts b8 (.cells [.slice (some ⟨b7, 0, none⟩) bs.length c7].toArray 28), pts b9 (.cells [.int .i64 256].toArray 3), J 0]) ?_ (TriE.mono (sl_ChunkB1 l b8 b9 b7 0 c7 bs.length J (by omega) hcap (by omega) ?_) ?_)
  · rw [hJ0, ← hC]
    refine Ent.take tk (Ent.take tk (Ent.conj ?_))
    rw [List.append_nil]
    exact Ent.take tk (Ent.take tk (Ent.take tk (Ent.take tk (Ent.conj (by rw [List.append_nil]; exact ent)))))
  · intro i hi
    obtain rfl : i = 0 := by omega
    rw [hm1, hJ0, Nat.zero_mul, Nat.zero_add]
    refine Yld.ent (M := pts l (.loop r0) :: [pts b6 (.cells [.slice (some ⟨rb, 0, none⟩) 1 1].toArray 121), pts rb (.cells [.slice a1 256 c1].toArray 28), OS (some ⟨b7, 0, none⟩) c7 bs, C]) ofCj ?_
    refine Yld.mono (K := fun v M => v = .bool true ∧ ∃ M', M = pts l (.loop r0) :: M' ∧ Ent (pts l (.loop r0) :: M') [J (0 + 1)]) (Yld.of (K := fun M' => Ent (pts l (.loop r0) :: M') [J (0 + 1)]) hrec rfl ?_) (fun v M ⟨z, M', e, k⟩ => ⟨z, e ▸ k⟩)
    have hpl := padB_len h2
    refine W.ent (M := Own 28 1 (.slice (some ⟨rb, 0, none⟩) 1 1) 1 [.slice a1 256 c1] :: [pts b6 (.cells [.slice (some ⟨rb, 0, none⟩) 1 1].toArray 121), OS (some ⟨b7, 0, none⟩) c7 bs, C]) (Ent.trans ent (ent_own (E := 28) (sz := 1) (n := 1) (L := [pts b6 (.cells [.slice (some ⟨rb, 0, none⟩) 1 1].toArray 121), OS (some ⟨b7, 0, none⟩) c7 bs, C]) rfl)) ?_
    refine go ?_
    refine W.drawC 5 #[0, 0, 2, 6, 15, 31] [pts b6 (.cells [.slice (some ⟨rb, 0, none⟩) 1 1].toArray 121)] [Own 28 1 (.slice (some ⟨rb, 0, none⟩) 1 1) 1 [.slice a1 256 c1], OS (some ⟨b7, 0, none⟩) c7 bs, C] rfl (by kernel_rfl) (by kernel_rfl) (by kernel_rfl) (by kernel_rfl) rfl rfl rfl ent ?_
    refine go ?_
    refine DB.callE (vs := [.slice (some ⟨b7, 0, none⟩) bs.length bs.length]) Tryz.func121 rfl rfl rfl rfl hl hl (kv_padded (some ⟨b7, 0, none⟩) bs.length bs _ h2 (OS.rd tk (fun _ => ⟨b7, rfl⟩))) ?_
    rintro v M ⟨a2, c2, rfl, ha2, rfl⟩
    refine ⟨[], [OS a2 c2 (padB bs), Own 28 1 (.slice (some ⟨rb, 0, none⟩) 1 1) 1 [.slice a1 256 c1], C], ent, ?_⟩
    rw [hpl] at ha2 ⊢
    refine go ?_
    refine DB.lit rfl rfl rfl parts rfl nl rfl rfl ?_
    intro b2
    refine go ?_
    refine DB.v rfl rfl rfl hl hl ?_
    refine SV.append rfl rfl rfl tk (RdS.src (RdS.all (sz := 1) (n := 1) rfl).cons) rfl rfl (by decide) rfl ?_
    intro a5 c5 ha5
    obtain ⟨b5, rfl⟩ := ha5 (by decide)
    refine ⟨[], [O2 (some ⟨b5, 0, none⟩) c5 a1 c1 a2 c2, OS a2 c2 (padB bs), C], ent, ?_⟩
    refine go ?_
    refine ⟨_, ent, ?_⟩
    refine OW.sv ?_
    refine SV.store (v := .slice (some ⟨b5, 0, none⟩) 2 c5) rfl rfl cel rfl rfl rfl frz le0 nl ?_
    refine ⟨_, Ent.refl _, ?_⟩
    show Ent _ _
    rw [hJ1]
    refine Ent.tohex (b5, c5, a2, c2) (Ent.pure ha2 ?_)
    exact ent
  · rintro v M ⟨rfl, rfl⟩
    rw [show (bs.length + 255) / 256 = 1 by omega, hJ1]
    refine ⟨[SL.hex fun q : Nat × Nat × Option Addr × Nat => SL.conj [hpure (SomeA q.2.2.1 256), O2 (some ⟨q.1, 0, none⟩) q.2.1 a1 c1 q.2.2.1 q.2.2.2, OS q.2.2.1 q.2.2.2 (padB bs), pts b6 (.cells [.slice (some ⟨q.1, 0, none⟩) 2 q.2.1].toArray 121), C]], ?_, ?_⟩
    · exact Ent.unhex fun q => Ent.unpure fun hq => Ent.take tk (Ent.tohex q (Ent.pure hq ent))
    · change W _ _ _ _ _ _ _
      refine W.ent Ent.swap2 (W.openI fun q hq => ?_)
      obtain ⟨b5, c5, a2, c2⟩ := q
      dsimp only at hq ⊢
      refine W.ent (M := [O2 (some ⟨b5, 0, none⟩) c5 a1 c1 a2 c2, OS a2 c2 (padB bs), pts b6 (.cells [.slice (some ⟨b5, 0, none⟩) 2 c5].toArray 121), C, pts D (.deferred (some []))]) ent ?_
      refine go ?_
      refine ⟨D, [O2 (some ⟨b5, 0, none⟩) c5 a1 c1 a2 c2, OS a2 c2 (padB bs), C], rfl, ent, [_], ⟨Res.tmp rfl, trivial⟩, O2 (some ⟨b5, 0, none⟩) c5 a1 c1 a2 c2 :: OS a1 c1 zero256 :: OS a2 c2 (padB bs) :: L, ?_, b5, c5, a1, c1, a2, c2, rfl, ha1, hq, rfl⟩
      rw [← hC]
      exact Ent.trans ofCj2 ent
end Go.SL

/- Layer 13 (kv): a store without keys: its bytes. -/
namespace Go.SL
open Go.Proofs
set_option linter.unusedVariables false
set_option linter.unusedSimpArgs false
set_option linter.unusedSectionVars false
set_option maxRecDepth 10000
set_option maxHeartbeats 4000000
theorem bits_ext {a b : List Nat} (ha : OkB a) (hb : OkB b) (hl : a.length = b.length) (h : ∀ k, bitB a k = bitB b k) : a = b := by
  apply List.ext_getElem hl
  intro j h1 h2
  have e1 : a.getD j 0 = a[j] := by simp [h1]
  have e2 : b.getD j 0 = b[j] := by simp [h2]
  rw [← e1, ← e2]
  have k1 := ha.get j
  have k2 := hb.get j
  apply Nat.eq_of_testBit_eq
  intro i
  by_cases hi : i < 8
  · have := h (8 * j + i)
    unfold bitB at this
    rw [show (8 * j + i) / 8 = j by omega, show (8 * j + i) % 8 = i by omega] at this
    exact this
  · have p : 256 ≤ 2 ^ i := by
      calc 256 = 2 ^ 8 := rfl
        _ ≤ 2 ^ i := Nat.pow_le_pow_right (by decide) (by omega)
    rw [Nat.testBit_lt_two_pow (by omega), Nat.testBit_lt_two_pow (by omega)]
/-- The bytes of a store without keys: its first two blocks are in use. -/
def emN (n : Nat) : List Nat := 3 :: List.replicate ((n + 7) / 8 - 1) 0
def emB (n : Nat) : Byt := 3 :: List.replicate ((n + 7) / 8 - 1) 0
theorem emB_len {n : Nat} (h : 1 ≤ n) : (emB n).length = (n + 7) / 8 := by simp [emB]; omega
theorem emN_len {n : Nat} (h : 1 ≤ n) : (emN n).length = (n + 7) / 8 := by simp [emN]; omega
theorem emN_map (n : Nat) : (emN n).map u8 = (emB n).map u8V := by simp [emN, emB, u8, u8V]
theorem emN_ok (n : Nat) : OkB (emN n) := fun x hx => by
  rcases List.mem_cons.1 hx with rfl | h
  · decide
  · rw [(List.mem_replicate.1 h).2]; decide
theorem emN_bit (n k : Nat) : bitB (emN n) k = decide (k < 2) := by
  unfold bitB emN
  by_cases h : k < 8
  · have : k / 8 = 0 := by omega
    rw [this]
    have h8 : ∀ k : Fin 8, (3 : Nat).testBit (k.val % 8) = decide (k.val < 2) := by decide
    exact h8 ⟨k, h⟩
  · obtain ⟨j, hj⟩ : ∃ j, k / 8 = j + 1 := ⟨k / 8 - 1, by omega⟩
    rw [hj, decide_eq_false (by omega)]
    have : (3 :: List.replicate ((n + 7) / 8 - 1) 0).getD (j + 1) 0 = 0 := by
      simp [List.getD_eq_getElem?_getD, List.getElem?_replicate]
      split <;> rfl
    rw [this, Nat.zero_testBit]
attribute [local irreducible] W WO SV OW SW Tri Ent Tk Has Src SrcK DA DB RdS Own MapH WetH
theorem sl_EqualB (a1 a2 : Option Addr) (c1 c2 : Nat) (s t : Byt) (L : List HP) (h1 : s.length ≤ 1000000) (h2 : t.length ≤ 1000000) (r1 : RdS 1 a1 s.length (s.map u8V) L) (r2 : RdS 1 a2 t.length (t.map u8V) L) :
    TriE Tryz.prog 98 #[.slice a1 s.length c1, .slice a2 t.length c2] (fun v M => v = .bool (decide (s = t)) ∧ M = L) L := by
  refine Tri.of (N := 26) (args := [.slice a1 s.length c1, .slice a2 t.length c2]) Tryz.func98 rfl rfl rfl ?_
  by_cases hlen : s.length = t.length
  rotate_left
  · rw [decide_eq_false (fun e => hlen (by rw [e]))]
    refine go ?_
    exact ⟨rfl, [_], ⟨Res.tmp rfl, trivial⟩, _, ent, rfl, rfl⟩
  refine go ?_
  have hst : ∀ i, i < s.length → s.take i = t.take i → (s.take (i + 1) = t.take (i + 1) ↔ s.getD i 0 = t.getD i 0) := fun i hi he => by
    rw [List.take_succ_eq_append_getElem hi, List.take_succ_eq_append_getElem (show i < t.length by omega), he, List.append_right_inj]
    simp [hi, show i < t.length by omega]
  refine W.loopS 67100720 rfl (fun i : Nat => [(13, .int .i64 (i : Int))]) (fun _ => L) (fun i => i ≤ s.length ∧ s.take i = t.take i) (fun i => s.length - i) 0 ⟨rfl, trivial⟩ ⟨Nat.zero_le _, rfl⟩ (Ent.app ent) ?_
  rintro i bg ⟨hi, he⟩
  dsimp only at hi he ⊢
  by_cases h9 : i < s.length
  · have g1 : (s.map u8V)[i]? = some (u8V (s.getD i 0)) := by simp [h9]
    have g2 : (t.map u8V)[i]? = some (u8V (t.getD i 0)) := by simp [show i < t.length by omega]
    have hsi := hst i h9 he
    obtain ⟨b1, o1, rfl⟩ := r1.at (by omega)
    obtain ⟨b2, o2, rfl⟩ := r2.at (by omega)
    have hx := (s.getD i 0).toNat_lt
    have hy := (t.getD i 0).toNat_lt
    have hne : s.getD i 0 ≠ t.getD i 0 → decide (s = t) = false := fun h => decide_eq_false fun e => h (by rw [e])
    have hxy : s.getD i 0 = t.getD i 0 ↔ (s.getD i 0).toNat = (t.getD i 0).toNat := ⟨fun h => by rw [h], fun h => UInt8.toNat_inj.1 h⟩
    generalize s.getD i 0 = x at *
    generalize t.getD i 0 = y at *
    refine go ?_
    refine W.ent (M := [SL.conj L]) toCj ?_
    refine W.drawB #[0, 0, 3, 7, 0, 0, 48, 112, 255] [SL.conj L] [] rfl (by kernel_rfl) (by kernel_rfl) (by kernel_rfl) ent ?_
    refine go ?_
    refine DB.q (v := u8V x) rfl rfl hl (SV.loadR i rfl (r1.ent ofCj) (by omega) g1 eqq) ?_
    refine go ?_
    refine DB.q (v := u8V y) rfl rfl hl (SV.loadR i rfl (r2.ent ofCj) (by omega) g2 eqq) ?_
    by_cases hq : x = y
    · have hq2 := hxy.1 hq
      refine go ?_
      refine ⟨L, ofCj, ?_⟩
      refine go ?_
      exact ⟨i + 1, ⟨rfl, trivial⟩, rfl, ⟨h9, hsi.2 hq⟩, by omega, Ent.app ent⟩
    · have hq2 : x.toNat ≠ y.toNat := fun h => hq (hxy.2 h)
      rw [hne hq]
      refine go ?_
      refine ⟨L, ofCj, ?_⟩
      refine go ?_
      exact ⟨rfl, [_], ⟨Res.tmp rfl, trivial⟩, _, ent, rfl, rfl⟩
  · obtain rfl : i = s.length := by omega
    rw [List.take_length, hlen, List.take_length] at he
    rw [decide_eq_true he]
    refine go ?_
    exact ⟨rfl, [_], ⟨Res.tmp rfl, trivial⟩, _, ent, rfl, rfl⟩
theorem kv_empty (n : Nat) (L : List HP) (h1 : 2 ≤ n) (h2 : n ≤ 2048) :
    TriE Tryz.prog 64 #[.int .i64 n] (fun v M => ∃ ua uc, v = ixV ua uc (emB n) n ∧ SomeA ua (emB n).length ∧ M = OS ua uc (emB n) :: L) L := by
  have hcl : clip n = n := by unfold clip; omega
  refine Tri.of (N := 10) (args := [.int .i64 n]) Tryz.func64 rfl rfl rfl ?_
  refine go ?_
  intro b2
  refine go ?_
  refine WO.callE (vs := [.int .i64 n]) Tryz.func120 rfl rfl rfl rfl (bm_New n _) ?_
  rintro v M ⟨a, c, rfl, ha, rfl⟩
  rw [hcl] at *
  have hz : OkB (List.replicate ((n + 7) / 8) 0) := fun x hx => by rw [(List.mem_replicate.1 hx).2]; decide
  refine go ?_
  refine WO.callE (vs := [.int .i64 n]) Tryz.func112 rfl rfl rfl rfl (kv_mapBlocks n _ (by omega)) ?_
  rintro v M ⟨rfl, rfl⟩
  rw [show (n + 2047) / 2048 = 1 by omega]
  refine go ?_
  refine WO.callE (vs := [BV a c (List.replicate ((n + 7) / 8) 0) n, .int .i64 0, .int .i64 2]) Tryz.func116 rfl rfl rfl rfl (bm_With a c (List.replicate ((n + 7) / 8) 0) n 0 2 _ (by simp; omega) (by simp; omega) hz (by unfold OB; exact RdS.ownS tk ha (by simp)) (by decide) (by decide)) ?_
  rintro v M ⟨a', c', bs, ⟨q1, q2, q3⟩, rfl, ha', rfl⟩
  have hbs : bs = emN n := by
    refine bits_ext q2 (emN_ok n) (by rw [q1, emN_len (by omega)]; simp) fun k => ?_
    rw [emN_bit]
    have hb0 : bitB (List.replicate ((n + 7) / 8) 0) k = false := by
      unfold bitB
      have : (List.replicate ((n + 7) / 8) 0).getD (k / 8) 0 = 0 := by
        simp [List.getD_eq_getElem?_getD, List.getElem?_replicate]
        split <;> rfl
      rw [this, Nat.zero_testBit]
    by_cases hk : k < 2
    · rw [decide_eq_true hk]
      exact (q3 k).1 ⟨by omega, by omega, fun z => absurd z (by decide), fun _ => by omega⟩
    · rw [decide_eq_false hk, (q3 k).2 (fun z => by have := z.2.2.2 (by decide); omega), hb0]
  subst hbs
  have hel := emB_len (n := n) (by omega)
  have hnl := emN_len (n := n) (by omega)
  have hOB : OB a' c' (emN n) = OS a' c' (emB n) := by
    unfold OB OS
    rw [emN_map, hel, hnl]
  rw [hOB]
  refine go ?_
  refine ⟨rfl, [_], ⟨Res.cell rfl le0 nl, trivial⟩, OS a' c' (emB n) :: L, ent, a', c', ?_, by rw [hel, ← hnl]; exact ha', rfl⟩
  unfold ixV
  rw [hel, ← hnl]
  rfl
end Go.SL

/- The keys of a map, collected and sorted. -/
namespace Go.SL
open Go.Proofs
set_option linter.unusedVariables false
set_option linter.unusedSimpArgs false
set_option linter.unusedSectionVars false
set_option maxRecDepth 10000
set_option maxHeartbeats 4000000
theorem len_sub {α : Type} [DecidableEq α] : ∀ (s t : List α), s.Nodup → (∀ x ∈ s, x ∈ t) → s.length ≤ t.length
  | [], t, _, _ => Nat.zero_le _
  | a :: s, t, h, k => by
    have h' := List.nodup_cons.1 h
    have hm := k a (by simp)
    have := len_sub s (t.erase a) h'.2 fun x hx => (List.mem_erase_of_ne (by rintro rfl; exact h'.1 hx)).2 (k x (by simp [hx]))
    rw [List.length_erase_of_mem hm] at this
    have : 0 < t.length := List.length_pos_of_mem hm
    simp only [List.length_cons]
    omega
section
variable {κ : Type} [DecidableEq κ] {enc : κ → Value} {kd : TypeDesc → Prop} [kk : KeyK enc kd] {P : Program} {L R : List HP}
variable {ro : Option Nat} {f : Frm} {d : Option Nat} {ty : TypeId} {ps : String} {af : Array Edge} {gu : Option (Nat × Bool)} {K : Value → List HP → Prop}
include kk
theorem SV.entry {b r : Nat} {x : Operand} {l : List (κ × Value)} {s0 : List κ} {k : κ} {v : Value} (hx : f.ev x = .pointer (some ⟨r, 0, none⟩)) (c : Tk L (RngH b r enc l (s0 ++ [k])) R) (hm : (k, v) ∈ l)
    (h : K (.tuple #[enc k, v]) (RngH b r enc l (s0 ++ [k]) :: R)) : SV P ro ⟨d, .entry x, ty, ps, af, gu⟩ f K L := by
  refine (SV.val (Instr.entry (f.ev x)) (by intro c h; cases h) rfl ?_)
  rw [hx]
  refine RngH.opens c fun es cl js hj => ?_
  have hlen : es.length = l.length := by have := congrArg List.length hj.m.e; simpa using this
  have hbl : ∀ j ∈ js, j < l.length := fun j z => hlen ▸ hj.b j z
  obtain ⟨js0, j, rfl⟩ : ∃ js0 j, js = js0 ++ [j] := by
    cases hz : js.reverse with
    | nil =>
      have : js = [] := by simpa using hz
      have := hj.s
      subst js
      simp at this
    | cons j t => exact ⟨t.reverse, j, by rw [← List.reverse_reverse js, hz]; simp⟩
  have hjl := hbl j (by simp)
  have hje : j < es.length := hlen ▸ hjl
  have hk : l[j].1 = k := by
    have := hj.s
    rw [List.filterMap_append] at this
    have e : [j].filterMap (fun j => (l[j]?).map (·.1)) = [l[j].1] := by simp [List.getElem?_eq_getElem hjl]
    rw [e] at this
    have := (List.append_inj' this rfl).2
    simpa using this.symm
  have hv : l[j].2 = v := by
    obtain ⟨i, hi, he⟩ := List.getElem_of_mem hm
    have hpw := List.pairwise_iff_getElem.1 (List.nodup_iff_pairwise_ne.1 hj.m.n)
    have hji : j = i := by
      rcases Nat.lt_trichotomy j i with z | z | z
      · exact absurd (by rw [List.getElem_map, List.getElem_map, hk, he]) (hpw j i (by simpa using hjl) (by simpa using hi) z)
      · exact z
      · exact absurd (by rw [List.getElem_map, List.getElem_map, hk, he]) (hpw i j (by simpa using hi) (by simpa using hjl) z)
    subst hji
    rw [he]
  have hkv : (es[j].key, es[j].val) = (enc l[j].1, l[j].2) := by
    have e := hj.m.e
    unfold mapE at e
    have h2 : (es.map (fun e => (e.key, e.val)))[j]? = (l.map (fun p => (enc p.1, p.2)))[j]? := by rw [e]
    rw [List.getElem?_map, List.getElem?_map, List.getElem?_eq_getElem hje, List.getElem?_eq_getElem hjl] at h2
    simpa using h2
  simp only [Prod.mk.injEq] at hkv
  have hback : ((js0 ++ [j]).filterMap fun j => (es[j]?).map (·.born)).toArray.back? = some es[j].born := by
    rw [List.filterMap_append]
    have : [j].filterMap (fun j => (es[j]?).map (·.born)) = [es[j].born] := by simp [List.getElem?_eq_getElem hje]
    rw [this]
    simp
  have hfind : es.toArray.find? (fun e => e.born == es[j].born) = some es[j] := by
    rw [List.find?_toArray]
    have key : ∀ (n : Nat) (hn : n < es.length), (∀ m (hm : m < n), (es[m].born == es[j].born) = false) → (es[n].born == es[j].born) = true → es.find? (fun e => e.born == es[j].born) = some es[n] := by
      intro n hn h1 h2
      rw [List.find?_eq_some_iff_getElem]
      exact ⟨h2, n, hn, rfl, fun m hm => by rw [h1 m hm]; rfl⟩
    refine key j hje (fun m hm => ?_) (by simp)
    have := List.pairwise_iff_getElem.1 hj.m.b.1 m j (by simp; omega) (by simpa using hje) hm
    rw [List.getElem_map, List.getElem_map] at this
    simp; omega
  unfold Instr.entry
  refine SW.bind (SW.getObj (Rd.there (r := Rd.here)) rfl ?_)
  dsimp only
  rw [hback]
  dsimp only
  refine SW.bind (SW.getObj Rd.here rfl ?_)
  dsimp only
  rw [if_neg (by simp), hfind]
  dsimp only
  rw [hkv.1, hkv.2, hk, hv]
  exact SW.ent (RngH.close hj) (SW.pure h)
end
section
variable {P : Program} {l : Nat} {vs : Array Value} {K : Value → List HP → Prop} {L : List HP}
theorem Yld.exI {β : Type} {G : β → HP} (h : ∀ x, Yld P l vs K (G x :: L)) : Yld P l vs K (SL.hex G :: L) := fun ro Fr w x => by
  obtain ⟨y, z⟩ := has_hex.1 x; exact h y ro Fr w z
theorem Yld.pureI {p : Prop} (h : p → Yld P l vs K L) : Yld P l vs K (hpure p :: L) := fun ro Fr w x => by
  obtain ⟨y, z⟩ := has_pure.1 x; exact h y ro Fr w z
theorem Yld.conjI {M : List HP} (h : Yld P l vs K (M ++ L)) : Yld P l vs K (SL.conj M :: L) := fun ro Fr w x => by
  have y : Has (M ++ (L ++ Fr)) (heapOf w) := has_conj.1 x
  rw [← List.append_assoc] at y
  exact h ro Fr w y
end
theorem Ent.unhexC {α : Type} {N : α → List HP} {R M : List HP} (h : ∀ x, Ent (N x ++ R) M) : Ent ((SL.hex fun x => SL.conj (N x)) :: R) M := fun k x => by
  obtain ⟨y, z⟩ := has_hex.1 x
  exact h y k (has_conj.1 z)
theorem Ent.tohexC {α : Type} {N : α → List HP} {L R : List HP} (x : α) (h : Ent L (N x ++ R)) : Ent L ((SL.hex fun x => SL.conj (N x)) :: R) := fun k y => has_hex.2 ⟨x, has_conj.2 (h k y)⟩
attribute [local irreducible] W WO SV OW SW Tri Ent Tk Has Src SrcK DA DB DP RdS Own OwnT MapH WetH RngH
/-- An iterator over a map's keys. -/
theorem mp_Keys1 (l b1 mb : Nat) (m : List (Int × Value)) (J : List Int → HP)
    (hy : ∀ seen k, seen.Nodup → (∀ x ∈ seen, x ∈ m.map (·.1)) → k ∈ m.map (·.1) → k ∉ seen → Yld Tryz.prog l [Value.int .i64 k].toArray (fun v M => v = .bool true ∧ Ent M [J (seen ++ [k])]) [J seen]) :
    TriE Tryz.prog 150 #[.func (.yield l) #[] #[], .pointer (some ⟨b1, 0, none⟩)] (fun v M => ∃ seen : List Int, v = .tuple #[] ∧ seen.Nodup ∧ (∀ k, k ∈ seen ↔ k ∈ m.map (·.1)) ∧ M = [J seen, MapH mb (Value.int .i64) m]) [pts b1 (.cells [.map (some mb)].toArray 99), MapH mb (Value.int .i64) m, J []] := by
  refine Tri.of (N := 14) (args := [.func (.yield l) #[] #[], .pointer (some ⟨b1, 0, none⟩)]) Tryz.func150 rfl rfl rfl ?_
  refine go ?_
  refine WO.sv rfl ?_
  refine SV.range (enc := (Value.int .i64 : Int → Value)) (l := m) (b := mb) rfl tk ?_
  intro r
  refine go ?_
  refine W.loopS 16328 rfl (fun seen : List Int => []) (fun seen => [RngH mb r (Value.int .i64) m seen, J seen]) (fun seen => seen.Nodup ∧ (∀ x ∈ seen, x ∈ m.map (·.1))) (fun seen => m.length - seen.length) [] trivial ⟨List.nodup_nil, fun _ h => by cases h⟩ (Ent.app ent) ?_
  rintro seen bg ⟨hn, hs⟩
  dsimp only at hn hs ⊢
  refine go ?_
  refine WO.sv rfl ?_
  refine SV.next (enc := (Value.int .i64 : Int → Value)) (l := m) (seen := seen) rfl tk ?_ ?_
  · intro h0
    refine go ?_
    refine ⟨rfl, [], trivial, [J seen, MapH mb (Value.int .i64) m], Ent.trans (B := RngH mb r (Value.int .i64) m seen :: [J seen]) ent (Ent.trans RngH.over ent), seen, rfl, hn, fun k => ⟨hs k, h0 k⟩, rfl⟩
  · intro k v hkv hk
    have hkm : k ∈ m.map (·.1) := List.mem_map_of_mem (f := (·.1)) hkv
    refine go ?_
    refine WO.sv rfl ?_
    refine SV.entry (enc := (Value.int .i64 : Int → Value)) (l := m) (s0 := seen) (k := k) (v := v) rfl tk hkv ?_
    refine go ?_
    refine WO.ent (M := [J seen, RngH mb r (Value.int .i64) m (seen ++ [k])]) ent ?_
    refine WO.yieldE (l := l) (vs := [.int .i64 k]) rfl rfl rfl (Yld.frame (L := [J seen]) [RngH mb r (Value.int .i64) m (seen ++ [k])] (hy seen k hn hs hkm hk)) ?_
    rintro v M ⟨M1, rfl, rfl, e⟩
    refine WO.ent (M := [J (seen ++ [k]), RngH mb r (Value.int .i64) m (seen ++ [k])]) (Ent.framed e _) ?_
    refine go ?_
    have hn2 : (seen ++ [k]).Nodup := by
      rw [List.nodup_append]
      exact ⟨hn, by simp, fun a ha b hb => by rw [List.mem_singleton.1 hb]; rintro rfl; exact hk ha⟩
    have hs2 : ∀ x ∈ seen ++ [k], x ∈ m.map (·.1) := fun x hx => by
      rcases List.mem_append.1 hx with z | z
      · exact hs x z
      · rw [List.mem_singleton.1 z]; exact hkm
    have hle := len_sub (seen ++ [k]) (m.map (·.1)) hn2 hs2
    simp only [List.length_append, List.length_map, List.length_singleton] at hle
    refine ⟨seen ++ [k], trivial, rfl, ⟨hn2, hs2⟩, by rw [List.length_append, List.length_singleton]; omega, Ent.app ent⟩
theorem ON.nil {L M : List HP} (e : Ent L M) : Ent L (ON none 0 [] :: M) := Ent.ownNil e
theorem sl_KeysA (b1 mb : Nat) (m : List (Int × Value)) (L : List HP) (hm : m.length ≤ 100000) :
    TriE Tryz.prog 179 #[.slice none 0 0, .func (.func 150) #[] [.pointer (some ⟨b1, 0, none⟩)].toArray] (fun v M => ∃ a c, ∃ seen : List Int, v = .slice a seen.length c ∧ SomeA a seen.length ∧ seen.Nodup ∧ (∀ k, k ∈ seen ↔ k ∈ m.map (·.1)) ∧ M = ON a c seen :: MapH mb (Value.int .i64) m :: L) (pts b1 (.cells [.map (some mb)].toArray 99) :: MapH mb (Value.int .i64) m :: L) := by
  refine Tri.ofD (N := 13) (args := [.slice none 0 0, .func (.func 150) #[] [.pointer (some ⟨b1, 0, none⟩)].toArray]) Tryz.func179 rfl rfl rfl ?_
  refine go ?_
  intro b2
  refine go ?_
  refine W.rangeF (lb := [.pointer (some ⟨b1, 0, none⟩)]) rfl Tryz.func150 rfl rfl ?_
  intro D l r0 hrec
  generalize hC : SL.conj L = C
  generalize hJ : (fun seen : List Int => SL.hex fun q : Option Addr × Nat => SL.conj [hpure (SomeA q.1 seen.length), pts l (.loop r0), pts b2 (.cells [.slice q.1 seen.length q.2].toArray 82), ON q.1 q.2 seen, C]) = J
  have hJs : ∀ seen, J seen = SL.hex fun q : Option Addr × Nat => SL.conj [hpure (SomeA q.1 seen.length), pts l (.loop r0), pts b2 (.cells [.slice q.1 seen.length q.2].toArray 82), ON q.1 q.2 seen, C] := fun seen => by rw [← hJ]
  refine TriE.ent (A := [pts b1 (.cells [.map (some mb)].toArray 99), MapH mb (Value.int .i64) m, J []]) ?_ (TriE.mono (mp_Keys1 l b1 mb m J ?_) ?_)
  · rw [hJs, ← hC]
    refine Ent.take tk (Ent.take tk (Ent.tohex (none, 0) (Ent.pure (fun z => absurd rfl z) ?_)))
    refine Ent.take tk (Ent.take tk (ON.nil (Ent.conj ?_)))
    rw [List.append_nil]
    exact ent
  · intro seen k hn hs hk hks
    have hle := len_sub seen (m.map (·.1)) hn hs
    rw [List.length_map] at hle
    rw [hJs seen]
    refine Yld.exI fun q => ?_
    refine Yld.conjI ?_
    refine Yld.pureI fun hq => ?_
    obtain ⟨a, c⟩ := q
    dsimp only at hq ⊢
    refine Yld.mono (K := fun v M => v = .bool true ∧ ∃ M', M = pts l (.loop r0) :: M' ∧ Ent (pts l (.loop r0) :: M') [J (seen ++ [k])]) (Yld.of (K := fun M' => Ent (pts l (.loop r0) :: M') [J (seen ++ [k])]) hrec rfl ?_) (fun v M ⟨z, M', e, k⟩ => ⟨z, e ▸ k⟩)
    refine W.ent (M := [pts b2 (.cells [.slice a seen.length c].toArray 82), ON a c seen, C]) ent ?_
    refine go ?_
    refine WO.sv rfl ?_
    refine SV.lit rfl rfl rfl parts rfl nl ?_
    intro rb
    refine go ?_
    refine WO.sv rfl ?_
    refine SV.append rfl rfl rfl tk (RdS.src (RdS.all (sz := 1) (n := 1) rfl)) rfl rfl (by omega) rfl ?_
    intro a' c' ha'
    refine go ?_
    rw [hJs]
    have he : ON a' c' (seen ++ [k]) = Own 3 1 (.slice a' (seen.length + 1) c') (seen.length + 1) (seen.map i64V ++ [.int .i64 k]) := by
      unfold ON
      rw [List.length_append, List.map_append]
      rfl
    refine Ent.tohex (a', c') (Ent.pure (fun z => ha' (by omega)) ?_)
    rw [he, List.length_append]
    exact ent
  · rintro v M ⟨seen, rfl, hn, hk, rfl⟩
    rw [hJs]
    refine ⟨[SL.hex fun q : Option Addr × Nat => SL.conj [hpure (SomeA q.1 seen.length), pts b2 (.cells [.slice q.1 seen.length q.2].toArray 82), ON q.1 q.2 seen, C], MapH mb (Value.int .i64) m], ?_, ?_⟩
    · exact Ent.unhexC fun q => Ent.unpure fun hq => Ent.take tk (Ent.tohexC q (Ent.pure hq ent))
    · change W _ _ _ _ _ _ _
      refine W.ent (Ent.swap2) (W.openI fun q hq => ?_)
      obtain ⟨a, c⟩ := q
      dsimp only at hq ⊢
      refine W.ent (M := [pts b2 (.cells [.slice a seen.length c].toArray 82), ON a c seen, MapH mb (Value.int .i64) m, C, pts D (.deferred (some []))]) ent ?_
      refine go ?_
      refine ⟨D, [ON a c seen, MapH mb (Value.int .i64) m, C], rfl, ent, [_], ⟨Res.tmp rfl, trivial⟩, ON a c seen :: MapH mb (Value.int .i64) m :: L, ?_, a, c, seen, rfl, hq, hn, hk, rfl⟩
      rw [← hC]
      exact Ent.under (Ent.under ofCj)
theorem sl_KeysC (b1 mb : Nat) (m : List (Int × Value)) (L : List HP) (hm : m.length ≤ 100000) :
    TriE Tryz.prog 148 #[.func (.func 150) #[] [.pointer (some ⟨b1, 0, none⟩)].toArray] (fun v M => ∃ a c, ∃ seen : List Int, v = .slice a seen.length c ∧ SomeA a seen.length ∧ seen.Nodup ∧ (∀ k, k ∈ seen ↔ k ∈ m.map (·.1)) ∧ M = ON a c seen :: MapH mb (Value.int .i64) m :: L) (pts b1 (.cells [.map (some mb)].toArray 99) :: MapH mb (Value.int .i64) m :: L) := by
  refine Tri.of (N := 5) (args := [.func (.func 150) #[] [.pointer (some ⟨b1, 0, none⟩)].toArray]) Tryz.func148 rfl rfl rfl ?_
  refine go ?_
  refine WO.cal (sl_KeysA b1 mb m L hm) ?_
  rintro v M ⟨a, c, seen, rfl, ha, hn, hk, rfl⟩
  refine go ?_
  exact ⟨rfl, [_], ⟨Res.tmp rfl, trivial⟩, _, ent, a, c, seen, rfl, ha, hn, hk, rfl⟩
/-- Two rows that rise and have the same numbers, each once, are the same. -/
theorem sorted_same (s t : List Int) (hs : s.Nodup) (ht : t.Nodup) (h : ∀ k, k ∈ s ↔ k ∈ t) : s.mergeSort (fun x y => decide (x ≤ y)) = t.mergeSort (fun x y => decide (x ≤ y)) := by
  have tr : ∀ a b c : Int, decide (a ≤ b) = true → decide (b ≤ c) = true → decide (a ≤ c) = true := fun a b c h1 h2 => by
    rw [decide_eq_true_eq] at *; omega
  have to : ∀ a b : Int, (decide (a ≤ b) || decide (b ≤ a)) = true := fun a b => by
    rw [Bool.or_eq_true, decide_eq_true_eq, decide_eq_true_eq]; omega
  have p1 := List.mergeSort_perm s (fun x y => decide (x ≤ y))
  have p2 := List.mergeSort_perm t (fun x y => decide (x ≤ y))
  have q1 := List.pairwise_mergeSort tr to s
  have q2 := List.pairwise_mergeSort tr to t
  have p : s.Perm t := (List.perm_ext_iff_of_nodup hs ht).2 h
  exact List.Perm.eq_of_pairwise (fun a b _ _ h1 h2 => by rw [decide_eq_true_eq] at h1 h2; omega) q1 q2 (p1.trans (p.trans p2.symm))
theorem sl_Keys (b1 mb : Nat) (m : List (Int × Value)) (L : List HP) (hm : m.length ≤ 100000) (h0 : m ≠ []) (hN : (m.map (·.1)).Nodup) :
    TriE Tryz.prog 96 #[.func (.func 150) #[] [.pointer (some ⟨b1, 0, none⟩)].toArray] (fun v M => ∃ b c, v = .slice (some ⟨b, 0, none⟩) m.length c ∧ M = ON (some ⟨b, 0, none⟩) c ((m.map (·.1)).mergeSort fun x y => decide (x ≤ y)) :: MapH mb (Value.int .i64) m :: L) (pts b1 (.cells [.map (some mb)].toArray 99) :: MapH mb (Value.int .i64) m :: L) := by
  refine Tri.of (N := 9) (args := [.func (.func 150) #[] [.pointer (some ⟨b1, 0, none⟩)].toArray]) Tryz.func96 rfl rfl rfl ?_
  refine go ?_
  refine WO.cal (sl_KeysC b1 mb m L hm) ?_
  rintro v M ⟨a, c, seen, rfl, ha, hn, hk, rfl⟩
  refine go ?_
  have hl1 := len_sub seen (m.map (·.1)) hn (fun x hx => (hk x).1 hx)
  have hl2 := len_sub (m.map (·.1)) seen hN (fun x hx => (hk x).2 hx)
  rw [List.length_map] at hl1 hl2
  have hpos : 0 < m.length := List.length_pos_iff.2 h0
  have hle : seen.length = m.length := by omega
  obtain ⟨b, rfl⟩ := ha (by omega)
  refine WO.cal (sl_SortI b c seen (MapH mb (Value.int .i64) m :: L) (by omega)) ?_
  rintro v M ⟨rfl, rfl⟩
  refine go ?_
  rw [sorted_same seen _ hn hN hk]
  refine ⟨rfl, [_], ⟨Res.tmp rfl, trivial⟩, _, ent, b, c, by rw [hle]; rfl, rfl⟩
end Go.SL

/- Layer 10 (journal): all that was done is laid at its place, walked. -/
namespace Go.SL
open Go.Proofs
set_option linter.unusedVariables false
set_option linter.unusedSimpArgs false
set_option linter.unusedSectionVars false
set_option maxRecDepth 10000
set_option maxHeartbeats 4000000
/-- Which blocks are not laid at their places, rising. -/
def wetK (w : Chs) : List Int := (w.map (·.1)).mergeSort fun x y => decide (x ≤ y)
def setC (g : Lg) : Dv → List Int → Dv × Int
  | d, [] => (d, 0)
  | d, k :: ks => andD (d.put (g.home k.toNat : Nat) ((wget g.wet k).getD [])) fun d => setC g d ks
/-- One after the other, as long as none fails; else the log is down. -/
def flP (r : Dv × Int) (g : Lg) (k : Dv → Dv × Lg × Int) : Dv × Lg × Int := if r.2 ≠ 0 then (r.1, { g with down := true }, r.2) else k r.1
def settleF (d : Dv) (g : Lg) : Dv × Lg × Int :=
  flP (setC g d (wetK g.wet)) g fun d => flP d.flush g fun d =>
    if (saveP d g g.hd.epoch).2.2 ≠ 0 then ((saveP d g g.hd.epoch).1, { (saveP d g g.hd.epoch).2.1 with down := true }, (saveP d g g.hd.epoch).2.2)
    else ((saveP d g g.hd.epoch).1, { (saveP d g g.hd.epoch).2.1 with used := 0, wet := [] }, 0)
def settleP (d : Dv) (g : Lg) : Dv × Lg × Int := if g.down = true then (d, g, 17) else if g.used = 0 then (d, g, 0) else settleF d g
/-- What is so of the blocks that are not laid at their places. -/
structure WetR (g : Lg) : Prop where
  n : ∀ p ∈ g.wet, 0 ≤ p.1 ∧ p.1 < 65536
  l : g.wet.length ≤ 4096
  z : g.used ≠ 0 → g.wet ≠ []
theorem setC_step (g : Lg) : ∀ (ks : List Int) (d : Dv), d.Ok → (setC g d ks).1.Ok ∧ (setC g d ks).1.kept.length = d.kept.length ∧ (setC g d ks).1.waits.length ≤ d.waits.length + ks.length := by
  intro ks
  induction ks with
  | nil => intro d ok; exact ⟨ok, rfl, Nat.le_refl _⟩
  | cons x l ih =>
    intro d ok
    have st := put_step d ok (g.home x.toNat : Nat) ((wget g.wet x).getD [])
    unfold setC andD
    split
    · exact ⟨st.1, st.2.1, by simp only [List.length_cons]; omega⟩
    · obtain ⟨a, b, c⟩ := ih _ st.1
      exact ⟨a, by rw [b, st.2.1], by simp only [List.length_cons]; omega⟩
theorem wetK_mem {w : Chs} {k : Int} : k ∈ wetK w ↔ k ∈ w.map (·.1) := (List.mergeSort_perm _ _).mem_iff
theorem wetK_len (w : Chs) : (wetK w).length = w.length := by unfold wetK; rw [(List.mergeSort_perm _ _).length_eq, List.length_map]
theorem wget_some : ∀ {w : Chs} {k : Int}, k ∈ w.map (·.1) → ∃ s, wget w k = some s
  | [], k, h => by cases h
  | (j, u) :: l, k, h => by
    unfold wget
    by_cases e : k = j
    · exact ⟨u, if_pos e⟩
    · rw [if_neg e]
      exact wget_some (by
        rcases List.mem_cons.1 h with q | q
        · exact absurd q e
        · exact q)
attribute [local irreducible] W WO SV OW SW Tri Ent Tk Has Src SrcK DA DB DP RdS Own OwnT MapH WetH RngH
theorem mp_Keys (mb : Nat) (L : List HP) : TriE Tryz.prog 97 #[.map (some mb)] (fun v M => ∃ b1, v = .func (.func 150) #[] [.pointer (some ⟨b1, 0, none⟩)].toArray ∧ M = pts b1 (.cells [.map (some mb)].toArray 99) :: L) L := by
  refine Tri.of (N := 4) (args := [.map (some mb)]) Tryz.func97 rfl rfl rfl ?_
  refine go ?_
  intro b1
  refine go ?_
  refine WO.sv rfl ?_
  refine SV.makeFunc rfl ?_
  refine go ?_
  exact ⟨rfl, [_], ⟨Res.tmp rfl, trivial⟩, _, ent, b1, rfl, rfl⟩
theorem jr_Settle (lb db mb : Nat) (g : Lg) (d0 : Dv) (R : List HP) (w : LgW g) (ok0 : d0.Ok) (hwt : d0.waits.length ≤ 1000) (hg : g.hd.gen < 9223372036854775808) (wr : WetR g) :
    TriE Tryz.prog 53 #[.pointer (some ⟨lb, 0, none⟩)] (fun v M => ∃ mb', v = .int .i64 (settleP d0 g).2.2 ∧ M = LgP lb db (settleP d0 g).2.1 mb' :: WetH mb' (settleP d0 g).2.1.wet :: DevH db (settleP d0 g).1 :: R) (LgP lb db g mb :: WetH mb g.wet :: DevH db d0 :: R) := by
  have hlq := w.eq
  have hl4 := w.l4
  have hL : settleP d0 g = if g.down = true then (d0, g, 17) else if g.used = 0 then (d0, g, 0) else settleF d0 g := rfl
  generalize settleP d0 g = F at *
  refine Tri.ent (M := [LgP lb db g mb, WetH mb g.wet, DevH db d0, SL.conj R]) (Ent.under (Ent.under (Ent.under toCj))) ?_
  have hfin : ∀ (g2 : Lg) (mb : Nat) (d2 : Dv), Ent [LgP lb db g2 mb, WetH mb g2.wet, DevH db d2, SL.conj R] (LgP lb db g2 mb :: WetH mb g2.wet :: DevH db d2 :: R) := fun g2 mb d2 => Ent.under (Ent.under (Ent.under ofCj))
  generalize hC : SL.conj R = C at *
  refine Tri.of (N := 81) (args := [.pointer (some ⟨lb, 0, none⟩)]) Tryz.func53 rfl rfl rfl ?_
  refine go ?_
  refine WO.cal (jr_check lb db mb g _) ?_
  rintro v M ⟨rfl, rfl⟩
  refine go ?_
  by_cases hd : g.down = true
  · rw [if_pos hd] at hL ⊢
    subst hL
    refine go ?_
    exact ⟨rfl, [_], ⟨Res.tmp rfl, trivial⟩, _, hfin g mb d0, mb, rfl, rfl⟩
  rw [if_neg hd] at hL ⊢
  have hdn : g.down = false := by
    cases hq : g.down with
    | false => rfl
    | true => exact absurd hq hd
  by_cases hu : g.used = 0
  · rw [if_pos hu] at hL
    subst hL
    refine go ?_
    exact ⟨rfl, [_], ⟨Res.tmp rfl, trivial⟩, _, hfin g mb d0, mb, rfl, rfl⟩
  rw [if_neg hu] at hL
  have hne := wr.z hu
  have hwl := wr.l
  have hwn := wr.n
  have hS : settleF d0 g = flP (setC g d0 (wetK g.wet)) g fun d => flP d.flush g fun d =>
    if (saveP d g g.hd.epoch).2.2 ≠ 0 then ((saveP d g g.hd.epoch).1, { (saveP d g g.hd.epoch).2.1 with down := true }, (saveP d g g.hd.epoch).2.2)
    else ((saveP d g g.hd.epoch).1, { (saveP d g g.hd.epoch).2.1 with used := 0, wet := [] }, 0) := rfl
  rw [hS] at hL
  clear hS
  generalize hKK : (fun d : Dv => flP d.flush g fun d =>
    if (saveP d g g.hd.epoch).2.2 ≠ 0 then ((saveP d g g.hd.epoch).1, { (saveP d g g.hd.epoch).2.1 with down := true }, (saveP d g g.hd.epoch).2.2)
    else ((saveP d g g.hd.epoch).1, { (saveP d g g.hd.epoch).2.1 with used := 0, wet := [] }, 0)) = KK at hL
  generalize hF1 : setC g d0 (wetK g.wet) = F1 at hL
  refine go ?_
  refine WO.ent (M := WetH mb g.wet :: [LgP lb db g mb, DevH db d0, C]) ent ?_
  refine WO.wet fun fm hfm => ?_
  have hrd := fun (k : Int) (s : Byt) (q : wget g.wet k = some s) => WetH.rd (R := []) hfm q
  have hcl := fun R => WetH.close (mb := mb) (R := R) hfm
  have hmg := mget_wV fm g.wet
  have hmk : (g.wet.map (wV fm)).map (·.1) = g.wet.map (·.1) := by rw [List.map_map]; rfl
  have hml : (g.wet.map (wV fm)).length = g.wet.length := List.length_map _
  have hmn : g.wet.map (wV fm) ≠ [] := fun z => hne (by simpa using z)
  generalize SL.conj (g.wet.map (wO fm)) = O at *
  generalize g.wet.map (wV fm) = ml at *
  refine WO.cal (mp_Keys mb _) ?_
  rintro v M ⟨b1, rfl, rfl⟩
  refine go ?_
  refine WO.cal (sl_Keys b1 mb ml _ (by omega) hmn (by rw [hmk]; exact hfm.1)) ?_
  rintro v M ⟨b, c, rfl, rfl⟩
  refine go ?_
  rw [hmk, hml]
  have hkl := wetK_len g.wet
  have hkm := fun k => wetK_mem (w := g.wet) (k := k)
  rw [show ((g.wet.map (·.1)).mergeSort fun x y => decide (x ≤ y)) = wetK g.wet from rfl]
  generalize wetK g.wet = ks at *
  rw [← hkl]
  have hon : ∀ M, RdS 1 (some ⟨b, 0, none⟩) ks.length (ks.map i64V) (ON (some ⟨b, 0, none⟩) c ks :: M) := fun M => RdS.ownS tk (fun _ => ⟨b, rfl⟩) (by simp)
  refine W.loopS 4503599358935140 rfl (fun q : Nat × Dv => [(28, .int .i64 (q.1 : Int))]) (fun q => [ON (some ⟨b, 0, none⟩) c ks, LgP lb db g mb, MapH mb (Value.int .i64) ml, O, DevH db q.2, C])
    (fun q => q.1 ≤ ks.length ∧ q.2.Ok ∧ q.2.kept.length = d0.kept.length ∧ q.2.waits.length ≤ 1001 + q.1 ∧ setC g q.2 (ks.drop q.1) = F1) (fun q => ks.length - q.1) (0, d0) ⟨rfl, trivial⟩ ⟨Nat.zero_le _, ok0, rfl, by dsimp only; omega, hF1⟩ (Ent.app ent) ?_
  clear hF1
  rintro ⟨i, d⟩ bg ⟨hi, ok, hkd, hwd, he⟩
  dsimp only at hi ok hkd hwd he ⊢
  by_cases h9 : i < ks.length
  · have hkg : (ks.map i64V)[i]? = some (i64V ks[i]) := by simp [h9]
    obtain ⟨s, hs⟩ := wget_some ((hkm ks[i]).1 (List.getElem_mem h9))
    have h256 : s.length = 256 := (hfm.2 _ (wget_mem hs)).2
    have hnn := hwn _ (wget_mem hs)
    have hdc : ks.drop i = ks[i] :: ks.drop (i + 1) := (List.getElem_cons_drop h9).symm
    rw [hdc] at he
    have hst : setC g d (ks[i] :: ks.drop (i + 1)) = andD (d.put (g.home ks[i].toNat : Nat) ((wget g.wet ks[i]).getD [])) fun d => setC g d (ks.drop (i + 1)) := rfl
    rw [hst, hs, Option.getD_some] at he
    clear hst hdc
    have hr2 := hrd _ _ hs
    have hmv := hmg ks[i]
    rw [hs] at hmv
    dsimp only at hnn
    generalize ks[i] = N0 at *
    obtain ⟨N, rfl⟩ : ∃ N : Nat, N0 = N := ⟨_, (Int.toNat_of_nonneg hnn.1).symm⟩
    rw [Int.toNat_natCast] at he
    have st := put_step d ok (g.home N : Nat) s
    refine go ?_
    refine WO.sv rfl ?_
    refine SV.loadR i rfl (hon _) (by omega) hkg ?_
    refine go ?_
    refine W.drawU 15 #[0, 0, 2, 6, 14, 0, 0, 96, 0, 256, 768, 1792, 0, 7936, 16382, 32767, 65535] [LgP lb db g mb, MapH mb (Value.int .i64) ml] [ON (some ⟨b, 0, none⟩) c ks, O, DevH db d, C] rfl (by kernel_rfl) (by kernel_rfl) (by kernel_rfl) (by kernel_rfl) ent ?_
    refine go ?_
    refine DB.cal hl hl (jr_home lb db mb N g _ (by omega) hlq (by omega)) ?_
    rintro v M ⟨rfl, rfl⟩
    refine ⟨[], [ON (some ⟨b, 0, none⟩) c ks, O, DevH db d, C], ent, ?_⟩
    refine go ?_
    refine DB.q (v := (mget ml (N : Int)).getD (.slice none 0 0)) rfl rfl hl (SV.lookup1 (enc := Value.int .i64) (i := (N : Int)) (z := .slice none 0 0) rfl rfl ⟨_, rfl⟩ (by kernel_rfl) tk eqq) ?_
    rw [hmv, Option.map_some, Option.getD_some, ← h256]
    refine go ?_
    refine DB.calX hl hl (dv_Write db d (g.home N : Nat) (fm N).1 (fm N).2 s [ON (some ⟨b, 0, none⟩) c ks, O, LgP lb db g mb, MapH mb (Value.int .i64) ml, C] ok (by omega) (by omega) (hr2.ent ent)) ent ?_
    rintro v M ⟨rfl, rfl⟩
    generalize d.put (g.home N : Nat) s = q at *
    obtain ⟨d2, z⟩ := q
    dsimp only at he st ⊢
    refine ⟨[], [ON (some ⟨b, 0, none⟩) c ks, O, DevH db d2, C], ent, ?_⟩
    refine go ?_
    refine ⟨[LgP lb db g mb, MapH mb (Value.int .i64) ml, ON (some ⟨b, 0, none⟩) c ks, O, DevH db d2, C], ent, ?_⟩
    refine go ?_
    refine DB.cal hl hl (jr_fell lb db mb g z _) ?_
    rintro v M ⟨rfl, rfl⟩
    rw [hdn, Bool.false_or]
    by_cases hz : z = 0
    · subst hz
      rw [show ∀ k, andD (d2, 0) k = k d2 from fun k => rfl] at he
      have hgg : ({ g with down := decide ((0 : Int) ≠ 0) } : Lg) = g := by
        obtain ⟨x1, x2, x3, x4, x5, x6⟩ := g
        dsimp only at hdn
        subst hdn
        rfl
      rw [hgg]
      refine ⟨[], [LgP lb db g mb, MapH mb (Value.int .i64) ml, ON (some ⟨b, 0, none⟩) c ks, O, DevH db d2, C], ent, ?_⟩
      refine go ?_
      refine ⟨[LgP lb db g mb, MapH mb (Value.int .i64) ml, ON (some ⟨b, 0, none⟩) c ks, O, DevH db d2, C], ent, ?_⟩
      refine go ?_
      exact ⟨(i + 1, d2), ⟨rfl, trivial⟩, rfl, ⟨h9, st.1, by dsimp only; rw [st.2.1, hkd], by dsimp only; omega, he⟩, by dsimp only; omega, Ent.app ent⟩
    · rw [show ∀ k, andD (d2, z) k = (d2, z) from fun k => if_pos hz] at he
      subst he
      rw [show flP (d2, z) g KK = (d2, { g with down := true }, z) from if_pos hz] at hL
      subst hL
      rw [decide_eq_true hz]
      refine ⟨[], [LgP lb db { g with down := true } mb, MapH mb (Value.int .i64) ml, ON (some ⟨b, 0, none⟩) c ks, O, DevH db d2, C], ent, ?_⟩
      refine go ?_
      refine ⟨[MapH mb (Value.int .i64) ml, O, LgP lb db { g with down := true } mb, DevH db d2, C], ent, ?_⟩
      refine W.ent (hcl _) ?_
      refine go ?_
      exact ⟨rfl, [_], ⟨Res.tmp rfl, trivial⟩, _, Ent.trans ent (hfin { g with down := true } mb d2), mb, rfl, rfl⟩
  have hii : i = ks.length := by omega
  subst hii
  rw [List.drop_length] at he
  have he' : F1 = (d, 0) := he.symm
  subst he'
  rw [show flP (d, 0) g KK = KK d from rfl, ← hKK] at hL
  clear hKK KK
  dsimp only at hL
  refine W.ent (M := [MapH mb (Value.int .i64) ml, O, LgP lb db g mb, DevH db d, C]) ent ?_
  refine W.ent (hcl _) ?_
  refine go ?_
  refine WO.calX (dv_Flush db d [WetH mb g.wet, LgP lb db g mb, C] ok (by omega)) ent ?_
  rintro v M ⟨rfl, rfl⟩
  refine go ?_
  have stf := flush_step d ok
  generalize d.flush = q at *
  obtain ⟨d2, z2⟩ := q
  dsimp only at stf hL ⊢
  refine WO.calX (jr_fell lb db mb g z2 [WetH mb g.wet, DevH db d2, C]) ent ?_
  rintro v M ⟨rfl, rfl⟩
  refine go ?_
  rw [hdn, Bool.false_or]
  by_cases hz : z2 = 0
  rotate_left
  · rw [show ∀ k, flP (d2, z2) g k = (d2, { g with down := true }, z2) from fun k => if_pos hz] at hL
    subst hL
    rw [decide_eq_true hz]
    refine go ?_
    exact ⟨rfl, [_], ⟨Res.tmp rfl, trivial⟩, _, Ent.trans ent (hfin { g with down := true } mb d2), mb, rfl, rfl⟩
  subst hz
  have hgg : ({ g with down := decide ((0 : Int) ≠ 0) } : Lg) = g := by
    obtain ⟨x1, x2, x3, x4, x5, x6⟩ := g
    dsimp only at hdn
    subst hdn
    rfl
  rw [hgg]
  rw [show ∀ k, flP (d2, 0) g k = k d2 from fun k => rfl] at hL
  refine go ?_
  refine WO.calX (jr_save lb db mb g.hd.epoch g d2 [WetH mb g.wet, C] w hg (by have := w.ep; omega) stf.1 (by omega)) ent ?_
  rintro v M ⟨rfl, rfl⟩
  refine go ?_
  have hsd : (saveP d2 g g.hd.epoch).2.1.down = g.down := by unfold saveP; split <;> rfl
  have hsw : (saveP d2 g g.hd.epoch).2.1.wet = g.wet := by unfold saveP; split <;> rfl
  generalize saveP d2 g g.hd.epoch = q at *
  obtain ⟨d3, g3, z3⟩ := q
  dsimp only at hL hsd hsw ⊢
  rw [hdn] at hsd
  refine WO.calX (jr_fell lb db mb g3 z3 [WetH mb g.wet, DevH db d3, C]) ent ?_
  rintro v M ⟨rfl, rfl⟩
  refine go ?_
  rw [hsd, Bool.false_or]
  by_cases hz3 : z3 = 0
  rotate_left
  · rw [if_pos hz3] at hL
    subst hL
    rw [decide_eq_true hz3, ← hsw]
    refine go ?_
    exact ⟨rfl, [_], ⟨Res.tmp rfl, trivial⟩, _, Ent.trans ent (hfin { g3 with down := true } mb d3), mb, rfl, rfl⟩
  subst hz3
  rw [if_neg (by simp)] at hL
  subst hL
  have hgg3 : ({ g3 with down := decide ((0 : Int) ≠ 0) } : Lg) = g3 := by
    obtain ⟨x1, x2, x3, x4, x5, x6⟩ := g3
    dsimp only at hsd
    subst hsd
    rfl
  rw [hgg3]
  refine go ?_
  refine WO.sv rfl ?_
  refine SV.mkMap (enc := (Value.int .i64 : Int → Value)) ?_
  intro mb2
  refine WO.ent (Ent.trans (WetH.nil (mb := mb2)) (Ent.refl _)) ?_
  refine go ?_
  exact ⟨rfl, [_], ⟨Res.tmp rfl, trivial⟩, _, Ent.trans ent (hfin { g3 with used := 0, wet := [] } mb2 d3), mb2, rfl, rfl⟩
end Go.SL

/- Layer 13 (kv): a store without keys: its index is read, walked. -/
namespace Go.SL
open Go.Proofs
set_option linter.unusedVariables false
set_option linter.unusedSimpArgs false
set_option linter.unusedSectionVars false
set_option maxRecDepth 10000
set_option maxHeartbeats 4000000
theorem padB_nat (s : Byt) : (padB s).map UInt8.toNat = s.map UInt8.toNat ++ List.replicate (256 - s.length) 0 := by simp [padB]
theorem toN_u8 (s : Byt) : (s.map UInt8.toNat).map u8 = s.map u8V := by simp [u8, u8V]
theorem toN_ok (s : Byt) : OkB (s.map UInt8.toNat) := fun x hx => by
  obtain ⟨c, _, rfl⟩ := List.mem_map.1 hx
  exact c.toNat_lt
theorem emB_nat (n : Nat) : (emB n).map UInt8.toNat = emN n := by simp [emB, emN]
theorem bit_app {a : List Nat} {m k : Nat} (h : OkB a) : bitB (a ++ List.replicate m 0) k = bitB a k := by
  unfold bitB
  by_cases h1 : k / 8 < a.length
  · rw [List.getD_eq_getElem?_getD, List.getElem?_append_left h1, List.getD_eq_getElem?_getD]
  · have e : (a ++ List.replicate m 0).getD (k / 8) 0 = 0 := by
      rw [List.getD_eq_getElem?_getD, List.getElem?_append_right (by omega), List.getElem?_replicate]
      split <;> rfl
    have e2 : a.getD (k / 8) 0 = 0 := by
      rw [List.getD_eq_getElem?_getD, List.getElem?_eq_none (by omega)]; rfl
    rw [e, e2]
/-- What the padded bytes of an empty store come to. -/
theorem em_of {n : Nat} {bs : List Nat} (h1 : 2 ≤ n) (hl : bs.length = (n + 7) / 8) (hok : OkB bs) (h : ∀ k, bitB bs k = (decide (k < n) && bitB ((padB (emB n)).map UInt8.toNat) k)) : bs = emN n := by
  refine bits_ext hok (emN_ok n) (by rw [hl, emN_len (by omega)]) fun k => ?_
  rw [h, padB_nat, emB_nat, bit_app (emN_ok n), emN_bit]
  by_cases hk : k < 2
  · rw [decide_eq_true hk, decide_eq_true (by omega)]; rfl
  · rw [decide_eq_false hk, Bool.and_false]
theorem clip_id {n : Nat} (h : n ≤ 4096) : clip n = n := by unfold clip; omega
theorem readL_step (d : Dv) (ok : d.Ok) (g : Lg) (n : Int) : OnlyR d (readL d g n).1 ∧ (readL d g n).2.1.hd = g.hd ∧ (readL d g n).2.1.wet = g.wet ∧ (readL d g n).2.1.cur = g.cur ∧ (readL d g n).2.1.seq = g.seq ∧ (readL d g n).2.1.used = g.used := by
  unfold readL
  split
  · exact ⟨OnlyR.refl ok, rfl, rfl, rfl, rfl, rfl⟩
  · split
    · exact ⟨OnlyR.refl ok, rfl, rfl, rfl, rfl, rfl⟩
    · split
      · exact ⟨OnlyR.refl ok, rfl, rfl, rfl, rfl, rfl⟩
      · exact ⟨OnlyR.read d ok _, rfl, rfl, rfl, rfl, rfl⟩
attribute [local irreducible] W WO SV OW SW Tri Ent Tk Has Src SrcK DA DB DP RdS Own OwnT MapH WetH RngH
theorem kv_bytes0 (ua : Option Addr) (uc : Nat) (bs : Byt) (n : Nat) (L : List HP) (h1 : 1 ≤ bs.length) (h2 : bs.length ≤ 256) (r : RdS 1 ua bs.length (bs.map u8V) L) :
    TriE Tryz.prog 113 #[ixV ua uc bs n] (fun v M => ∃ a c, v = .slice a 256 c ∧ SomeA a 256 ∧ M = OS a c (padB bs) :: L) L := by
  have hpl := padB_len h2
  refine Tri.of (N := 19) (args := [ixV ua uc bs n]) Tryz.func113 rfl rfl rfl ?_
  refine go ?_
  intro b1
  refine go ?_
  refine WO.cal (kv_meta0 ua uc bs n _ h1 h2 r.cons) ?_
  rintro v M ⟨a, c, a1, c1, a2, c2, rfl, ha1, ha2, rfl⟩
  refine go ?_
  refine WO.ownCap (E := 28) (sz := 1) (n := 2) (xs := [.slice a1 256 c1, .slice a2 256 c2]) (show Tk _ (O2 (some ⟨a, 0, none⟩) c a1 c1 a2 c2) _ from tk) fun hcap => ?_
  refine WO.sv rfl ?_
  refine SV.cutX (l := 1) (h := 2) rfl (cutAt.of rfl rfl) rfl (by decide) hcap ?_
  generalize hof : (if c = 1 then 0 else 0 + 1 * 1) = off
  rw [if_neg (by omega)] at hof
  subst hof
  refine go ?_
  refine W.loopS 261160 rfl (fun q : Nat × Option Addr × Nat => [(3, .slice q.2.1 (if q.1 = 0 then 0 else 256) q.2.2), (10, .int .i64 (q.1 : Int))]) (fun q => OS q.2.1 q.2.2 (if q.1 = 0 then [] else padB bs) :: O2 (some ⟨a, 0, none⟩) c a1 c1 a2 c2 :: OS a2 c2 (padB bs) :: L)
    (fun q => q.1 ≤ 1 ∧ (q.1 = 1 → SomeA q.2.1 256)) (fun q => 1 - q.1) (0, none, 0) ⟨rfl, rfl, trivial⟩ ⟨Nat.zero_le _, fun z => absurd z (by decide)⟩ (Ent.app (by dsimp only; unfold OS; exact Ent.ownNil ent)) ?_
  have r2 : ∀ M, RdS 1 a2 256 ((padB bs).map u8V) (OS a2 c2 (padB bs) :: M) := fun M => by
    have := OS.rd (s := padB bs) (a := a2) (c := c2) (L := OS a2 c2 (padB bs) :: M) Tk.here (by rw [hpl]; exact ha2)
    rw [hpl] at this
    exact this
  rintro ⟨i, ao, co⟩ bg ⟨hi, hao⟩
  dsimp only at hi hao ⊢
  by_cases h0 : i = 0
  · subst h0
    have rr : RdS 1 (some ⟨a, 0, none⟩) 2 [.slice a1 256 c1, .slice a2 256 c2] (OS ao co [] :: O2 (some ⟨a, 0, none⟩) c a1 c1 a2 c2 :: OS a2 c2 (padB bs) :: L) := RdS.ownS tk (fun _ => ⟨a, rfl⟩) rfl
    refine go ?_
    refine WO.sv rfl ?_
    refine SV.loadR 1 rfl rr rfl rfl ?_
    refine go ?_
    refine WO.sv rfl ?_
    refine SV.append (n := 0) (m := 256) (xs := []) rfl rfl rfl (show Tk _ (OS ao co []) _ from tk) (RdS.src (c := c2) (r2 _).cons) (by rw [List.length_map, hpl]) (by simp [u8V, isCell]) (by decide) rfl ?_
    intro a' c' ha'
    refine go ?_
    refine ⟨(1, a', c'), ⟨rfl, rfl, trivial⟩, rfl, ⟨Nat.le_refl _, fun _ _ => ha' (by decide)⟩, by dsimp only; omega, Ent.app ?_⟩
    dsimp only
    rw [if_neg (by decide)]
    unfold OS
    rw [hpl]
    exact ent
  obtain rfl : i = 1 := by omega
  refine go ?_
  refine ⟨rfl, [_], ⟨Res.tmp rfl, trivial⟩, OS ao co (padB bs) :: L, ent, ao, co, rfl, hao rfl, rfl⟩
/-- A store without keys: how it is laid. -/
abbrev StL (lb : Nat) (ua : Option Addr) (uc m : Nat) (n : Int) : List Value := [.pointer (some ⟨lb, 0, none⟩), .slice none 0 0, .slice ua m uc, .int .i64 n]
theorem kv_load0 (sb lb db mb : Nat) (g g1 g2 : Lg) (d d1 d2 : Dv) (n : Nat) (C : HP) (ok : d.Ok) (hlog : (g.log : Int) = g.hd.log) (hl3 : g.log + 2 ≤ d.kept.length) (hn : homeN d g = n) (h1 : 2 ≤ n) (h2 : n ≤ 2048)
    (e1 : readL d g 0 = (d1, g1, zero256, 0)) (e2 : readL d1 g1 1 = (d2, g2, padB (emB n), 0)) :
    TriE Tryz.prog 61 #[.pointer (some ⟨sb, 0, none⟩)] (fun v M => ∃ ua uc, v = .int .i64 0 ∧ SomeA ua (emB n).length ∧ M = [pts sb (.cells (StL lb ua uc (emB n).length n).toArray 34), OS ua uc (emB n), LgP lb db g2 mb, WetH mb g2.wet, DevH db d2, C])
      [pts sb (.cells (StL lb none 0 0 0).toArray 34), LgP lb db g mb, WetH mb g.wet, DevH db d, C] := by
  have hk := ok.size
  have s1 := readL_step d ok g 0
  rw [e1] at s1
  dsimp only at s1
  obtain ⟨o1, q1, q2, _⟩ := s1
  have s2 := readL_step d1 o1.1 g1 1
  rw [e2] at s2
  dsimp only at s2
  obtain ⟨o2, p1, p2, _⟩ := s2
  have hlg1 : g1.log = g.log := by unfold Lg.log; rw [q1]
  have hkd1 : d1.kept.length = d.kept.length := by rw [o1.2.1]
  have hel := emB_len (n := n) (by omega)
  have hpl : (padB (emB n)).length = 256 := padB_len (by omega)
  have hhome : ((d.kept.length : Int) - 2 - g.hd.log) = (n : Int) := by unfold homeN at hn; omega
  have hR1 := fun R => jr_Read lb db mb g d 0 R ok hlog hl3 (by decide)
  obtain ⟨m1, hm1⟩ : ∃ m : Int, m = min (1 + ((0 : Nat) : Int)) ((n : Int) - 1) := ⟨_, rfl⟩
  have e2' : readL d1 g1 m1 = (d2, g2, padB (emB n), 0) := by rw [show m1 = 1 by omega]; exact e2
  have hR2 := fun R => jr_Read lb db mb g1 d1 m1 R o1.1 (by rw [hlg1, q1]; exact hlog) (by omega) (by omega)
  rw [e2', hpl] at hR2
  rw [e1, show zero256.length = 256 from rfl, q2] at hR1
  dsimp only at hR1 hR2
  rw [q2] at hR2 p2
  rw [p2] at hR2 ⊢
  subst hm1
  have hsrc : ((padB (emB n)).map UInt8.toNat).length = 256 := by rw [List.length_map, hpl]
  have hOf := fun a c L r => bm_Of a c ((padB (emB n)).map UInt8.toNat) n L (by omega) (toN_ok _) r
  rw [hsrc, toN_u8, clip_id (by omega)] at hOf
  have hEq := fun a1 a2 c1 c2 L r1 r2 => sl_EqualB a1 a2 c1 c2 (padB (emB n)) (padB (emB n)) L (by omega) (by omega) r1 r2
  rw [hpl] at hEq
  have hEz := fun a1 a2 c1 c2 L r1 r2 => sl_EqualB a1 a2 c1 c2 zero256 zero256 L (by decide) (by decide) r1 r2
  rw [show zero256.length = 256 from rfl] at hEz
  have hrd : ∀ (a : Option Addr) (c : Nat) (M : List HP), SomeA a 256 → RdS 1 a 256 ((padB (emB n)).map u8V) (OS a c (padB (emB n)) :: M) := fun a c M ha => by
    have := OS.rd (s := padB (emB n)) (a := a) (c := c) (L := OS a c (padB (emB n)) :: M) Tk.here (by rw [hpl]; exact ha)
    rw [hpl] at this
    exact this
  have hrz : ∀ (a : Option Addr) (c : Nat) (M : List HP), SomeA a 256 → RdS 1 a 256 (zero256.map u8V) (OS a c zero256 :: M) := fun a c M ha => OS.rd (s := zero256) (a := a) (c := c) (L := OS a c zero256 :: M) Tk.here ha
  refine Tri.of (N := 154) (args := [.pointer (some ⟨sb, 0, none⟩)]) Tryz.func61 rfl rfl rfl ?_
  refine go ?_
  refine WO.calX (jr_Home lb db mb g d [pts sb (.cells (StL lb none 0 0 0).toArray 34), WetH mb g.wet, C] hk (by omega)) ent ?_
  rintro v M ⟨rfl, rfl⟩
  refine go ?_
  rw [hhome]
  refine go ?_
  refine WO.calX (hR1 [pts sb (.cells (StL lb none 0 0 0).toArray 34), C]) ent ?_
  rintro v M ⟨a0, c0, rfl, ha0, rfl⟩
  refine go ?_
  refine WO.cal (kv_mapBlocks n _ (by omega)) ?_
  rintro v M ⟨rfl, rfl⟩
  refine go ?_
  rw [show (n + 2047) / 2048 = 1 by omega]
  refine W.loopS 144115170895987652 rfl (fun q : Nat × Option Addr × Nat => [(6, .slice q.2.1 (if q.1 = 0 then 0 else 256) q.2.2), (34, .int .i64 (q.1 : Int))]) (fun q => [OS q.2.1 q.2.2 (if q.1 = 0 then [] else padB (emB n)), LgP lb db (if q.1 = 0 then g1 else g2) mb, WetH mb g.wet, DevH db (if q.1 = 0 then d1 else d2), OS a0 c0 zero256, pts sb (.cells (StL lb none 0 0 0).toArray 34), C])
    (fun q => q.1 ≤ 1 ∧ (q.1 = 1 → SomeA q.2.1 256)) (fun q => 1 - q.1) (0, none, 0) ⟨rfl, rfl, trivial⟩ ⟨Nat.zero_le _, fun z => absurd z (by decide)⟩ (Ent.app (by dsimp only; unfold OS; exact Ent.ownNil ent)) ?_
  rintro ⟨i, ab, cb⟩ bg ⟨hi, hab⟩
  dsimp only at hi hab ⊢
  by_cases h0 : i = 0
  · subst h0
    rw [if_pos rfl, if_pos rfl, if_pos rfl, if_pos rfl]
    refine go ?_
    refine WO.calX (hR2 [OS ab cb [], OS a0 c0 zero256, pts sb (.cells (StL lb none 0 0 0).toArray 34), C]) ent ?_
    rintro v M ⟨a2, c2, rfl, ha2, rfl⟩
    refine go ?_
    refine WO.sv rfl ?_
    refine SV.append (n := 0) (m := 256) (xs := []) rfl rfl rfl (show Tk _ (OS ab cb []) _ from tk) (RdS.src (c := c2) (hrd a2 c2 _ ha2)) (by rw [List.length_map, hpl]) (by simp [u8V, isCell]) (by decide) rfl ?_
    intro a' c' ha'
    refine go ?_
    refine ⟨(1, a', c'), ⟨rfl, rfl, trivial⟩, rfl, ⟨Nat.le_refl _, fun _ _ => ha' (by decide)⟩, by dsimp only; omega, Ent.app ?_⟩
    dsimp only
    rw [if_neg (by decide), if_neg (by decide), if_neg (by decide)]
    unfold OS
    rw [hpl]
    exact ent
  obtain rfl : i = 1 := by omega
  rw [if_neg (by decide), if_neg (by decide), if_neg (by decide), if_neg (by decide)]
  refine go ?_
  refine WO.cal (hOf ab cb _ (hrd ab cb _ (hab rfl))) ?_
  rintro v M ⟨ua, uc, bs, t1, t2, t3, rfl, hua, rfl⟩
  obtain rfl := em_of h1 t1 t2 t3
  clear t1 t2 t3
  have hOB : OB ua uc (emN n) = OS ua uc (emB n) := by
    unfold OB OS
    rw [emN_map, hel, emN_len (by omega)]
  rw [hOB]
  have hBV : BV ua uc (emN n) n = .agg #[.slice ua (emB n).length uc, .int .i64 n] := by
    unfold BV
    rw [hel, emN_len (by omega)]
  rw [hBV]
  rw [emN_len (by omega), ← hel] at hua
  have z0 : (zero256.map u8V)[0]? = some (.int .u8 0) := rfl
  have z1 : (zero256.map u8V)[1]? = some (.int .u8 0) := rfl
  have hS : ∀ M, Ent (pts sb (.cells (StL lb ua uc (emB n).length n).toArray 34) :: M) (pts sb (.cells (StL lb ua uc (emB n).length n).toArray 34) :: M) := fun M => Ent.refl _
  obtain ⟨ba0, rfl⟩ := ha0 (by decide)
  refine go ?_
  refine W.drawB #[0, 1, 3, 7, 15, 0, 32, 96, 224, 511, 1023] [OS (some ⟨ba0, 0, none⟩) c0 zero256] [pts sb (.cells (StL lb ua uc (emB n).length n).toArray 34), OS ua uc (emB n), OS ab cb (padB (emB n)), LgP lb db g2 mb, WetH mb g.wet, DevH db d2, C] rfl (by kernel_rfl) (by kernel_rfl) (by kernel_rfl) ent ?_
  refine go ?_
  refine DB.q (v := .int .u8 0) rfl rfl hl (SV.loadR 0 rfl (hrz _ c0 _ (fun _ => ⟨ba0, rfl⟩)) rfl z0 eqq) ?_
  refine go ?_
  refine DB.q (v := .int .i64 0) rfl rfl hl (SV.shl rfl rfl (by decide) (by rfl) eqq) ?_
  refine go ?_
  refine DB.q (v := .int .u8 0) rfl rfl hl (SV.loadR 1 rfl (hrz _ c0 _ (fun _ => ⟨ba0, rfl⟩)) rfl z1 eqq) ?_
  refine go ?_
  refine DB.q (v := .int .i64 0) rfl rfl hl (SV.bor rfl rfl (by rfl) eqq) ?_
  refine go ?_
  refine ⟨[pts sb (.cells (StL lb ua uc (emB n).length n).toArray 34), OS ua uc (emB n), OS ab cb (padB (emB n)), OS (some ⟨ba0, 0, none⟩) c0 zero256, LgP lb db g2 mb, WetH mb g.wet, DevH db d2, C], ent, ?_⟩
  have hue : RdS 1 ua (emB n).length ((emB n).map u8V) [OS ua uc (emB n), OS ab cb (padB (emB n)), OS (some ⟨ba0, 0, none⟩) c0 zero256, LgP lb db g2 mb, WetH mb g.wet, DevH db d2, C] := OS.rd (s := emB n) Tk.here hua
  refine go ?_
  refine WO.cal (kv_bytes0 ua uc (emB n) n _ (by omega) (by omega) hue.cons) ?_
  rintro v M ⟨a7, c7, rfl, ha7, rfl⟩
  refine go ?_
  refine WO.cal (hEq ab a7 cb c7 (OS a7 c7 (padB (emB n)) :: [pts sb (.cells (StL lb ua uc (emB n).length n).toArray 34), OS ua uc (emB n), OS ab cb (padB (emB n)), OS (some ⟨ba0, 0, none⟩) c0 zero256, LgP lb db g2 mb, WetH mb g.wet, DevH db d2, C]) ((hrd ab cb [] (hab rfl)).ent ent) (hrd a7 c7 _ ha7)) ?_
  rintro v M ⟨rfl, rfl⟩
  refine go ?_
  rw [decide_eq_true rfl]
  refine go ?_
  refine W.loopS 22300745198530622986793213361975827143653380 rfl (fun _ : Unit => [(87, .int .i64 0)]) (fun _ => [pts sb (.cells (StL lb ua uc (emB n).length n).toArray 34), OS ua uc (emB n), OS ab cb (padB (emB n)), OS (some ⟨ba0, 0, none⟩) c0 zero256, LgP lb db g2 mb, WetH mb g.wet, DevH db d2, C]) (fun _ => True) (fun _ => 0) () ⟨rfl, trivial⟩ trivial (Ent.app ent) ?_
  intro _ bg _
  refine go ?_
  refine WO.cal (kv_meta0 ua uc (emB n) n _ (by omega) (by omega) hue.cons) ?_
  rintro v M ⟨a8, c8, a1, c1, a2, c2, rfl, ha1, ha2, rfl⟩
  refine go ?_
  have rr : ∀ M, RdS 1 (some ⟨a8, 0, none⟩) 2 [.slice a1 256 c1, .slice a2 256 c2] (O2 (some ⟨a8, 0, none⟩) c8 a1 c1 a2 c2 :: M) := fun M => RdS.ownS tk (fun _ => ⟨a8, rfl⟩) rfl
  refine WO.sv rfl ?_
  refine SV.loadR 0 rfl (rr _) rfl rfl ?_
  refine go ?_
  refine WO.cal (hEz (some ⟨ba0, 0, none⟩) a1 c0 c1 (O2 (some ⟨a8, 0, none⟩) c8 a1 c1 a2 c2 :: OS a1 c1 zero256 :: OS a2 c2 (padB (emB n)) :: [pts sb (.cells (StL lb ua uc (emB n).length n).toArray 34), OS ua uc (emB n), OS ab cb (padB (emB n)), OS (some ⟨ba0, 0, none⟩) c0 zero256, LgP lb db g2 mb, WetH mb g.wet, DevH db d2, C]) ((hrz _ c0 [] (fun _ => ⟨ba0, rfl⟩)).ent ent) ((hrz a1 c1 [] ha1).ent ent)) ?_
  rintro v M ⟨rfl, rfl⟩
  refine go ?_
  rw [decide_eq_true rfl]
  refine go ?_
  exact ⟨rfl, [_], ⟨Res.tmp rfl, trivial⟩, [pts sb (.cells (StL lb ua uc (emB n).length n).toArray 34), OS ua uc (emB n), LgP lb db g2 mb, WetH mb g.wet, DevH db d2, C], ent, ua, uc, rfl, hua, rfl⟩
end Go.SL

/- Layer 13 (kv): a store without keys: it is sound, opened, and formatted; walked. -/
namespace Go.SL
open Go.Proofs
set_option linter.unusedVariables false
set_option linter.unusedSimpArgs false
set_option linter.unusedSectionVars false
set_option maxRecDepth 10000
set_option maxHeartbeats 4000000
attribute [local irreducible] W WO SV OW SW Tri Ent Tk Has Src SrcK DA DB DP RdS Own OwnT MapH WetH RngH
theorem kv_sound0 (sb lb db mb : Nat) (g : Lg) (d : Dv) (n : Nat) (ua : Option Addr) (uc : Nat) (C : HP) (hk : d.kept.length ≤ 4096) (hlog : (g.log : Int) = g.hd.log) (hl3 : g.log + 2 ≤ d.kept.length) (hn : homeN d g = n) (h1 : 2 ≤ n) (h2 : n ≤ 2048) (hua : SomeA ua (emB n).length) :
    TriE Tryz.prog 62 #[.pointer (some ⟨sb, 0, none⟩)] (fun v M => v = .bool true ∧ M = [pts sb (.cells (StL lb ua uc (emB n).length n).toArray 34), OS ua uc (emB n), LgP lb db g mb, WetH mb g.wet, DevH db d, C])
      [pts sb (.cells (StL lb ua uc (emB n).length n).toArray 34), OS ua uc (emB n), LgP lb db g mb, WetH mb g.wet, DevH db d, C] := by
  have hhome : ((d.kept.length : Int) - 2 - g.hd.log) = (n : Int) := by unfold homeN at hn; omega
  have hel := emB_len (n := n) (by omega)
  refine Tri.of (N := 99) (args := [.pointer (some ⟨sb, 0, none⟩)]) Tryz.func62 rfl rfl rfl ?_
  refine go ?_
  refine WO.calX (jr_Home lb db mb g d [pts sb (.cells (StL lb ua uc (emB n).length n).toArray 34), OS ua uc (emB n), WetH mb g.wet, C] hk (by omega)) ent ?_
  rintro v M ⟨rfl, rfl⟩
  refine go ?_
  rw [hhome]
  refine go ?_
  refine WO.cal (kv_empty n _ h1 h2) ?_
  rintro v M ⟨va, vc, rfl, hva, rfl⟩
  refine go ?_
  intro b4
  refine go ?_
  refine W.loopS 618970019642690137432786596 rfl (fun _ : Unit => [(24, .int .i64 0)]) (fun _ => [pts b4 (.cells [.slice none 0 0, .slice va (emB n).length vc, .int .i64 n].toArray 32), OS va vc (emB n), pts sb (.cells (StL lb ua uc (emB n).length n).toArray 34), OS ua uc (emB n), LgP lb db g mb, WetH mb g.wet, DevH db d, C]) (fun _ => True) (fun _ => 0) () ⟨rfl, trivial⟩ trivial (Ent.app ent) ?_
  intro _ bg _
  refine go ?_
  refine W.drawB #[0, 1, 3, 0, 8, 24, 56, 120, 255, 511, 1023] [pts b4 (.cells [.slice none 0 0, .slice va (emB n).length vc, .int .i64 n].toArray 32), pts sb (.cells (StL lb ua uc (emB n).length n).toArray 34), OS va vc (emB n), OS ua uc (emB n)] [LgP lb db g mb, WetH mb g.wet, DevH db d, C] rfl (by kernel_rfl) (by kernel_rfl) (by kernel_rfl) ent ?_
  have hv : ∀ M, RdS 1 va (emB n).length ((emB n).map u8V) (OS va vc (emB n) :: M) := fun M => OS.rd (s := emB n) Tk.here hva
  have hu : ∀ M, RdS 1 ua (emB n).length ((emB n).map u8V) (OS ua uc (emB n) :: M) := fun M => OS.rd (s := emB n) Tk.here hua
  refine go ?_
  refine DB.cal hl hl (bm_BytesB va vc (emB n) n _ (by omega) ((hv []).ent ent)) ?_
  rintro v M ⟨a1, c1, rfl, ha1, rfl⟩
  refine ⟨[], OS a1 c1 (emB n) :: [LgP lb db g mb, WetH mb g.wet, DevH db d, C], ent, ?_⟩
  refine go ?_
  refine DB.cal hl hl (bm_BytesB ua uc (emB n) n _ (by omega) ((hu []).ent ent)) ?_
  rintro v M ⟨a2, c2, rfl, ha2, rfl⟩
  refine ⟨[], OS a2 c2 (emB n) :: OS a1 c1 (emB n) :: [LgP lb db g mb, WetH mb g.wet, DevH db d, C], ent, ?_⟩
  have h1r : ∀ M, RdS 1 a1 (emB n).length ((emB n).map u8V) (OS a1 c1 (emB n) :: M) := fun M => OS.rd (s := emB n) Tk.here ha1
  have h2r : ∀ M, RdS 1 a2 (emB n).length ((emB n).map u8V) (OS a2 c2 (emB n) :: M) := fun M => OS.rd (s := emB n) Tk.here ha2
  refine go ?_
  refine DB.cal hl hl (sl_EqualB a1 a2 c1 c2 (emB n) (emB n) _ (by omega) (by omega) ((h1r []).ent ent) ((h2r []).ent ent)) ?_
  rintro v M ⟨rfl, rfl⟩
  rw [decide_eq_true rfl]
  refine ⟨[], [LgP lb db g mb, WetH mb g.wet, DevH db d, C], ent, ?_⟩
  refine go ?_
  refine ⟨[pts sb (.cells (StL lb ua uc (emB n).length n).toArray 34), OS ua uc (emB n), LgP lb db g mb, WetH mb g.wet, DevH db d, C], ent, ?_⟩
  refine go ?_
  exact ⟨rfl, [_], ⟨Res.tmp rfl, trivial⟩, _, ent, rfl, rfl⟩
theorem kv_Open0 (db : Nat) (d d0 d1 d2 : Dv) (g g1 g2 : Lg) (n : Nat) (R : List HP) (ok : d.Ok) (hwt : d.waits.length ≤ 1000) (e0 : openP d = (d0, some g, 0)) (hlog : (g.log : Int) = g.hd.log) (hl3 : g.log + 2 ≤ d0.kept.length) (hn : homeN d0 g = n) (h1 : 2 ≤ n) (h2 : n ≤ 2048)
    (e1 : readL d0 g 0 = (d1, g1, zero256, 0)) (e2 : readL d1 g1 1 = (d2, g2, padB (emB n), 0)) :
    TriE Tryz.prog 28 #[.pointer (some ⟨db, 0, none⟩)] (fun v M => ∃ sb lb mb ua uc, v = .tuple #[.pointer (some ⟨sb, 0, none⟩), .int .i64 0] ∧ SomeA ua (emB n).length ∧ M = pts sb (.cells (StL lb ua uc (emB n).length n).toArray 34) :: OS ua uc (emB n) :: LgP lb db g2 mb :: WetH mb g2.wet :: DevH db d2 :: R) (DevH db d :: R) := by
  have hst := openP_step d ok
  rw [e0] at hst
  have hO := jr_Open db d R ok hwt
  rw [e0] at hO
  dsimp only at hO hst
  have hk0 := hst.1.size
  have s1 := readL_step d0 hst.1 g 0
  rw [e1] at s1
  dsimp only at s1
  obtain ⟨o1, q1, q2, _⟩ := s1
  have s2 := readL_step d1 o1.1 g1 1
  rw [e2] at s2
  dsimp only at s2
  obtain ⟨o2, p1, p2, _⟩ := s2
  have hlg2 : g2.log = g.log := by unfold Lg.log; rw [p1, q1]
  have hk2 : d2.kept.length = d0.kept.length := by rw [o2.2.1, o1.2.1]
  refine Tri.of (N := 28) (args := [.pointer (some ⟨db, 0, none⟩)]) Tryz.func28 rfl rfl rfl ?_
  refine go ?_
  refine WO.cal (hO) ?_
  rintro v M (⟨z, _⟩ | ⟨g', lb, mb, z, z2, rfl, rfl⟩)
  · cases z
  injection z with z
  subst z
  refine go ?_
  intro sb
  refine WO.ent (Ent.trans (B := pts sb (.cells (StL lb none 0 0 0).toArray 34) :: LgP lb db g mb :: WetH mb g.wet :: DevH db d0 :: R) ent (Ent.under (Ent.under (Ent.under (Ent.under toCj))))) ?_
  have hfin : ∀ (ua : Option Addr) (uc : Nat), Ent [pts sb (.cells (StL lb ua uc (emB n).length n).toArray 34), OS ua uc (emB n), LgP lb db g2 mb, WetH mb g2.wet, DevH db d2, SL.conj R] (pts sb (.cells (StL lb ua uc (emB n).length n).toArray 34) :: OS ua uc (emB n) :: LgP lb db g2 mb :: WetH mb g2.wet :: DevH db d2 :: R) := fun ua uc => Ent.under (Ent.under (Ent.under (Ent.under (Ent.under ofCj))))
  generalize SL.conj R = C at *
  refine go ?_
  refine WO.cal (kv_load0 sb lb db mb g g1 g2 d0 d1 d2 n C hst.1 hlog hl3 hn h1 h2 e1 e2) ?_
  rintro v M ⟨ua, uc, rfl, hua, rfl⟩
  refine go ?_
  refine WO.cal (kv_sound0 sb lb db mb g2 d2 n ua uc C (by omega) (by rw [hlg2, p1, q1]; exact hlog) (by omega) (by unfold homeN at hn ⊢; omega) h1 h2 hua) ?_
  rintro v M ⟨rfl, rfl⟩
  refine go ?_
  exact ⟨rfl, [_, _], ⟨Res.tmp rfl, Res.tmp rfl, trivial⟩, _, hfin ua uc, sb, lb, mb, ua, uc, rfl, hua, rfl⟩
end Go.SL

/- Layer 13 (kv): an empty store is laid, walked. -/
namespace Go.SL
open Go.Proofs
set_option linter.unusedVariables false
set_option linter.unusedSimpArgs false
set_option linter.unusedSectionVars false
set_option maxRecDepth 10000
set_option maxHeartbeats 4000000
attribute [local irreducible] W WO SV OW SW Tri Ent Tk Has Src SrcK DA DB DP RdS Own OwnT MapH WetH RngH
theorem kv_Format0 (db : Nat) (d d0 d1 d2 : Dv) (log : Int) (g1 g2 : Lg) (n : Nat) (R : List HP) (ok : d.Ok) (hw : d.waits.length ≤ 1000) (hk : d.kept.length ≠ 0) (hlg : -9223372036854775808 ≤ log ∧ log ≤ 9223372036854775807) (e1 : fmtS d log = (d0, 0)) (hw0 : d0.waits.length ≤ 1000) (e2 : openP d0 = (d1, some g1, 0)) (w : LgW g1) (hw1 : d1.waits.length ≤ 1000) (hl3 : g1.log + 2 ≤ d1.kept.length) (hn : homeN d1 g1 = n) (h1 : 2 ≤ n) (h2 : n ≤ 2048) (hu : g1.used + 4 ≤ g1.log) (hsq : g1.seq < 9223372036854775808)
    (hr : refP d1 g1 [(0, zero256), (1, padB (emB n))] = 0) (e3 : doneP d1 g1 [(0, zero256), (1, padB (emB n))] = (d2, g2, 0)) :
    TriE Tryz.prog 29 #[.pointer (some ⟨db, 0, none⟩), .int .i64 log] (fun v M => v = .int .i64 0 ∧ M = DevH db d2 :: R) (DevH db d :: R) := by
  have hf := fmtS_step d ok log
  have hF := jr_Format db d log R ok (by omega) hk hlg
  rw [e1] at hf hF
  dsimp only at hf hF
  have ho := openP_step d0 hf.1
  have hO := jr_Open db d0 R hf.1 hw0
  rw [e2] at ho hO
  dsimp only at ho hO
  have ok1 := ho.1
  have hk1 := ok1.size
  have hlq := w.eq
  have hhome : ((d1.kept.length : Int) - 2 - g1.hd.log) = (n : Int) := by unfold homeN at hn; omega
  have hel := emB_len (n := n) (by omega)
  have hpl : (padB (emB n)).length = 256 := padB_len (by omega)
  refine Tri.of (N := 45) (args := [.pointer (some ⟨db, 0, none⟩), .int .i64 log]) Tryz.func29 rfl rfl rfl ?_
  refine go ?_
  refine WO.cal (hF) ?_
  rintro v M ⟨rfl, rfl⟩
  refine go ?_
  refine WO.cal (hO) ?_
  rintro v M (⟨z, _⟩ | ⟨g', lb, mb, z, z2, rfl, rfl⟩)
  · cases z
  injection z with z
  subst z
  refine go ?_
  refine WO.calX (jr_Home lb db mb g1 d1 (WetH mb g1.wet :: R) hk1 (by omega)) ent ?_
  rintro v M ⟨rfl, rfl⟩
  refine go ?_
  rw [hhome]
  refine WO.cal (kv_empty n _ h1 h2) ?_
  rintro v M ⟨ua, uc, rfl, hua, rfl⟩
  refine go ?_
  have hue : ∀ M, RdS 1 ua (emB n).length ((emB n).map u8V) (OS ua uc (emB n) :: M) := fun M => OS.rd (s := emB n) Tk.here hua
  refine WO.cal (kv_meta0 ua uc (emB n) n _ (by omega) (by omega) (hue _)) ?_
  rintro v M ⟨a, c, a1, c1, a2, c2, rfl, ha1, ha2, rfl⟩
  refine go ?_
  have rr : ∀ M, RdS 1 (some ⟨a, 0, none⟩) 2 [.slice a1 256 c1, .slice a2 256 c2] (O2 (some ⟨a, 0, none⟩) c a1 c1 a2 c2 :: M) := fun M => RdS.ownS tk (fun _ => ⟨a, rfl⟩) rfl
  generalize hxs : ([((0, zero256), (a1, c1)), ((1, padB (emB n)), (a2, c2))] : List QCh) = xs
  have hx0 : xs.take 0 = [] := rfl
  have hx1 : xs.take 1 = [((0, zero256), (a1, c1))] := by rw [← hxs]; rfl
  have hx2 : xs.take 2 = xs := by rw [← hxs]; rfl
  refine W.loopS 4396972771072 rfl (fun q : Nat × Option Addr × Nat => [(8, .slice q.2.1 q.1 q.2.2), (30, .int .i64 (q.1 : Int))]) (fun q => Own 125 2 (.slice q.2.1 q.1 q.2.2) q.1 ((xs.take q.1).flatMap qV) :: O2 (some ⟨a, 0, none⟩) c a1 c1 a2 c2 :: OS a1 c1 zero256 :: OS a2 c2 (padB (emB n)) :: LgP lb db g1 mb :: WetH mb g1.wet :: DevH db d1 :: R)
    (fun q => q.1 ≤ 2 ∧ (q.1 ≠ 0 → ∃ b, q.2.1 = some ⟨b, 0, none⟩)) (fun q => 2 - q.1) (0, none, 0) ⟨rfl, rfl, trivial⟩ ⟨Nat.zero_le _, fun z => absurd rfl z⟩ (Ent.app (by dsimp only; exact Ent.ownNil ent)) ?_
  rintro ⟨i, ao, co⟩ bg ⟨hi, hao⟩
  dsimp only at hi hao ⊢
  by_cases h0 : i = 0
  · subst h0
    rw [hx0]
    refine go ?_
    refine WO.sv rfl ?_
    refine SV.loadR 0 rfl (rr _).cons rfl rfl ?_
    refine go ?_
    refine WO.sv rfl ?_
    refine SV.lit rfl rfl rfl parts rfl nl ?_
    intro rb
    refine go ?_
    refine WO.sv rfl ?_
    refine SV.append (n := 0) (m := 1) rfl rfl rfl tk (RdS.src (RdS.all (sz := 2) (n := 1) rfl)) rfl rfl (by decide) rfl ?_
    intro a' c' ha'
    refine go ?_
    refine ⟨(1, a', c'), ⟨rfl, rfl, trivial⟩, rfl, ⟨by dsimp only; omega, fun _ => ha' (by decide)⟩, by dsimp only; omega, Ent.app ?_⟩
    dsimp only
    rw [hx1]
    exact ent
  by_cases h0 : i = 1
  · subst h0
    rw [hx1]
    refine go ?_
    refine WO.sv rfl ?_
    refine SV.loadR 1 rfl (rr _).cons rfl rfl ?_
    refine go ?_
    refine WO.sv rfl ?_
    refine SV.lit rfl rfl rfl parts rfl nl ?_
    intro rb
    refine go ?_
    refine WO.sv rfl ?_
    refine SV.append (n := 1) (m := 1) rfl rfl rfl tk (RdS.src (RdS.all (sz := 2) (n := 1) rfl)) rfl rfl (by decide) rfl ?_
    intro a' c' ha'
    refine go ?_
    refine ⟨(2, a', c'), ⟨rfl, rfl, trivial⟩, rfl, ⟨by dsimp only; omega, fun _ => ha' (by decide)⟩, by dsimp only; omega, Ent.app ?_⟩
    dsimp only
    rw [hx2, ← hxs]
    have hqv : ([((0, zero256), (a1, c1)), ((1, padB (emB n)), (a2, c2))] : List QCh).flatMap qV = [.int .i64 0, .slice a1 256 c1] ++ [.int .i64 1, .slice a2 256 c2] := by
      show [Value.int .i64 0, .slice a1 zero256.length c1, .int .i64 1, .slice a2 (padB (emB n)).length c2] = _
      rw [hpl]; rfl
    rw [hqv]
    exact ent
  obtain rfl : i = 2 := by omega
  rw [hx2]
  obtain ⟨b2, rfl⟩ := hao (by decide)
  have hq : ∀ x ∈ xs, QOk x := by
    intro x hx
    rw [← hxs] at hx
    rcases List.mem_cons.1 hx with rfl | hx
    · exact ⟨rfl, ha1, by dsimp only; omega⟩
    · obtain rfl := List.mem_singleton.1 hx
      exact ⟨hpl, by dsimp only; rw [hpl]; exact ha2, by dsimp only; omega⟩
  have hcs : xs.map (·.1) = [(0, zero256), (1, padB (emB n))] := by rw [← hxs]; rfl
  have hxl : xs.length = 2 := by rw [← hxs]; rfl
  have hent : Ent (Own 125 2 (.slice (some ⟨b2, 0, none⟩) 2 co) 2 (xs.flatMap qV) :: O2 (some ⟨a, 0, none⟩) c a1 c1 a2 c2 :: OS a1 c1 zero256 :: OS a2 c2 (padB (emB n)) :: LgP lb db g1 mb :: WetH mb g1.wet :: DevH db d1 :: R) (LgP lb db g1 mb :: WetH mb g1.wet :: DevH db d1 :: OC (some ⟨b2, 0, none⟩) co xs :: SL.conj (xs.map qO) :: R) := by
    refine Ent.trans (B := LgP lb db g1 mb :: WetH mb g1.wet :: DevH db d1 :: Own 125 2 (.slice (some ⟨b2, 0, none⟩) 2 co) 2 (xs.flatMap qV) :: OS a1 c1 zero256 :: OS a2 c2 (padB (emB n)) :: R) ent ?_
    unfold OC
    rw [hxl]
    refine Ent.under (Ent.under (Ent.under (Ent.under ?_)))
    rw [← hxs]
    exact Ent.conj (Ent.refl _)
  have hch : ChR (some ⟨b2, 0, none⟩) (xs.map (·.1)) (qF xs) (OC (some ⟨b2, 0, none⟩) co xs :: SL.conj (xs.map qO) :: R) := qR (some ⟨b2, 0, none⟩) co xs hq (fun _ => ⟨b2, rfl⟩) (by omega)
  have hD := jr_Done lb db mb g1 d1 (some ⟨b2, 0, none⟩) co (xs.map (·.1)) (qF xs) _ w ok1 hw1 hl3 (fun k => by have := Nat.mod_lt (g1.cur + k) (show 0 < g1.log by have := w.l3; omega); unfold Lg.place; omega) (by rw [List.length_map, hxl]; exact hu) hsq hch (by rw [hcs]; exact hr)
  rw [hcs, e3] at hD
  dsimp only at hD
  refine go ?_
  refine WO.ent hent ?_
  refine WO.cal (hD) ?_
  rintro v M ⟨rfl, rfl⟩
  refine go ?_
  exact ⟨rfl, [_], ⟨Res.tmp rfl, trivial⟩, DevH db d2 :: R, ent, rfl, rfl⟩
end Go.SL

/- Layer 13 (kv): empty stores, reckoned. -/
namespace Go.SL
open Go.Proofs
set_option linter.unusedVariables false
set_option linter.unusedSimpArgs false
set_option linter.unusedSectionVars false
set_option maxRecDepth 10000
set_option maxHeartbeats 4000000
/-- An empty store's device and log, step by step. -/
structure Em where
  blocks : Nat
  log : Nat
def Em.n (e : Em) : Nat := e.blocks - 2 - e.log
def lg00 : Lg := ⟨Hd.zero, 0, 0, 0, [], false⟩
def Em.cs (e : Em) : Chs := [(0, zero256), (1, padB (emB e.n))]
def Em.d0 (e : Em) : Dv := (fmtS (Dv.new e.blocks) e.log).1
def Em.d1 (e : Em) : Dv := (openP e.d0).1
def Em.g1 (e : Em) : Lg := (openP e.d0).2.1.getD lg00
def Em.d2 (e : Em) : Dv := (doneP e.d1 e.g1 e.cs).1
def Em.d3 (e : Em) : Dv := (openP e.d2).1
def Em.g3 (e : Em) : Lg := (openP e.d2).2.1.getD lg00
def Em.d4 (e : Em) : Dv := (readL e.d3 e.g3 0).1
def Em.g4 (e : Em) : Lg := (readL e.d3 e.g3 0).2.1
def Em.d5 (e : Em) : Dv := (readL e.d4 e.g4 1).1
def Em.g5 (e : Em) : Lg := (readL e.d4 e.g4 1).2.1
def lgOkB (g : Lg) : Bool := decide (3 ≤ g.log) && (decide (g.log ≤ 4096) && (decide ((g.log : Int) = g.hd.log) && (decide (g.cur < g.log) && (decide (g.hd.epoch < 18446744073709551616) && decide (g.seq < 9223372036854775808)))))
theorem lgOkB_w {g : Lg} (h : lgOkB g = true) : LgW g ∧ g.seq < 9223372036854775808 := by
  unfold lgOkB at h
  simp only [Bool.and_eq_true, decide_eq_true_eq] at h
  obtain ⟨a, b, c, d, e, f⟩ := h
  exact ⟨⟨a, b, c, d, e, by omega⟩, f⟩
/-- Whether all goes well. -/
def Em.okA (e : Em) : Bool := decide ((fmtS (Dv.new e.blocks) e.log).2 = 0) && (decide (e.d0.waits.length ≤ 1000) && (decide ((openP e.d0).2.2 = 0) && ((openP e.d0).2.1.isSome && (lgOkB e.g1 && (decide (e.d1.waits.length ≤ 1000) && (decide (e.g1.log + 2 ≤ e.d1.kept.length) && (decide (homeN e.d1 e.g1 = e.n) && (decide (e.g1.used + 4 ≤ e.g1.log) && (decide (refP e.d1 e.g1 e.cs = 0) && decide ((doneP e.d1 e.g1 e.cs).2.2 = 0))))))))))
def Em.okB (e : Em) : Bool := decide (e.d2.waits.length ≤ 1000) && (decide ((openP e.d2).2.2 = 0) && ((openP e.d2).2.1.isSome && (lgOkB e.g3 && (decide (e.g3.log + 2 ≤ e.d3.kept.length) && (decide (homeN e.d3 e.g3 = e.n) && (decide ((readL e.d3 e.g3 0).2.2 = (zero256, 0)) && decide ((readL e.d4 e.g4 1).2.2 = (padB (emB e.n), 0))))))))
theorem em60 : Em.okA ⟨60, 20⟩ = true := by kernel_rfl
theorem em60b : Em.okB ⟨60, 20⟩ = true := by kernel_rfl
end Go.SL

/- Layer 13 (kv): what a store tells that has no keys, or that was not made; walked. -/
namespace Go.SL
open Go.Proofs
set_option linter.unusedVariables false
set_option linter.unusedSimpArgs false
set_option linter.unusedSectionVars false
set_option maxRecDepth 10000
set_option maxHeartbeats 4000000
theorem pop3 : pop 3 = 2 := by decide
theorem emN_used {n : Nat} (h : 1 ≤ n) : sumPop (emN n) = 2 := by
  unfold emN
  have key : ∀ m, sumPop (List.replicate m 0) = 0 := by
    intro m
    induction m with
    | zero => rfl
    | succ m ih => rw [List.replicate_succ]; show pop 0 + sumPop (List.replicate m 0) = 0; rw [ih]; rfl
  show pop 3 + sumPop (List.replicate ((n + 7) / 8 - 1) 0) = 2
  rw [key, pop3]
attribute [local irreducible] W WO SV OW SW Tri Ent Tk Has Src SrcK DA DB DP RdS Own OwnT MapH WetH RngH
theorem kv_none (sb lb n m uc : Nat) (ua : Option Addr) (L : List HP) [r : Rd L sb (.cells (StL lb ua uc m n).toArray 34 (0, 0))] :
    TriE Tryz.prog 43 #[.pointer (some ⟨sb, 0, none⟩)] (fun v M => v = .bool false ∧ M = L) L := by
  refine Tri.of (N := 12) (args := [.pointer (some ⟨sb, 0, none⟩)]) Tryz.func43 rfl rfl rfl ?_
  refine go ?_
  exact ⟨rfl, [_], ⟨Res.tmp rfl, trivial⟩, _, ent, rfl, rfl⟩
/-- A store that was not made. -/
abbrev st0 : List Value := [.pointer none, .slice none 0 0, .slice none 0 0, .int .i64 0]
theorem kv_noneU (sb : Nat) (L : List HP) [r : Rd L sb (.cells st0.toArray 34 (0, 0))] :
    TriE Tryz.prog 43 #[.pointer (some ⟨sb, 0, none⟩)] (fun v M => v = .bool true ∧ M = L) L := by
  refine Tri.of (N := 12) (args := [.pointer (some ⟨sb, 0, none⟩)]) Tryz.func43 rfl rfl rfl ?_
  refine go ?_
  exact ⟨rfl, [_], ⟨Res.tmp rfl, trivial⟩, _, ent, rfl, rfl⟩
theorem kv_noneN (L : List HP) :
    TriE Tryz.prog 43 #[.pointer none] (fun v M => v = .bool true ∧ M = L) L := by
  refine Tri.of (N := 12) (args := [.pointer none]) Tryz.func43 rfl rfl rfl ?_
  refine go ?_
  exact ⟨rfl, [_], ⟨Res.tmp rfl, trivial⟩, _, ent, rfl, rfl⟩
def UnS (x : Value) (L : List HP) : Prop := TriE Tryz.prog 43 #[x] (fun v M => v = .bool true ∧ M = L) L
theorem kv_GetU (x : Value) (k : Byt) (L : List HP) (u : UnS x L) :
    TriE Tryz.prog 19 #[x, strV k] (fun v M => v = .tuple #[strV [], .int .i64 1] ∧ M = L) L := by
  refine Tri.of (N := 70) (args := [x, strV k]) Tryz.func19 rfl rfl rfl ?_
  refine go ?_
  refine WO.cal (u) ?_
  rintro v M ⟨rfl, rfl⟩
  refine go ?_
  exact ⟨rfl, [_, _], ⟨Res.tmp rfl, Res.tmp rfl, trivial⟩, _, ent, rfl, rfl⟩
theorem kv_FreeU (x : Value) (L : List HP) (u : UnS x L) :
    TriE Tryz.prog 24 #[x] (fun v M => v = .int .i64 0 ∧ M = L) L := by
  refine Tri.of (N := 18) (args := [x]) Tryz.func24 rfl rfl rfl ?_
  refine go ?_
  refine WO.cal (u) ?_
  rintro v M ⟨rfl, rfl⟩
  refine go ?_
  exact ⟨rfl, [_], ⟨Res.tmp rfl, trivial⟩, _, ent, rfl, rfl⟩
theorem kv_LeavesU (x : Value) (L : List HP) (u : UnS x L) :
    TriE Tryz.prog 25 #[x] (fun v M => v = .int .i64 0 ∧ M = L) L := by
  refine Tri.of (N := 11) (args := [x]) Tryz.func25 rfl rfl rfl ?_
  refine go ?_
  refine WO.cal (u) ?_
  rintro v M ⟨rfl, rfl⟩
  refine go ?_
  exact ⟨rfl, [_], ⟨Res.tmp rfl, trivial⟩, _, ent, rfl, rfl⟩
theorem kv_KeysU (x : Value) (k : Byt) (L : List HP) (u : UnS x L) :
    TriE Tryz.prog 22 #[x, strV k] (fun v M => v = .slice none 0 0 ∧ M = L) L := by
  refine Tri.of (N := 41) (args := [x, strV k]) Tryz.func22 rfl rfl rfl ?_
  refine go ?_
  refine WO.cal (u) ?_
  rintro v M ⟨rfl, rfl⟩
  refine go ?_
  exact ⟨rfl, [_], ⟨Res.tmp rfl, trivial⟩, _, ent, rfl, rfl⟩
theorem kv_Leaves0 (sb lb n m uc : Nat) (ua : Option Addr) (L : List HP) [r : Rd L sb (.cells (StL lb ua uc m n).toArray 34 (0, 0))] :
    TriE Tryz.prog 25 #[.pointer (some ⟨sb, 0, none⟩)] (fun v M => v = .int .i64 0 ∧ M = L) L := by
  refine Tri.of (N := 11) (args := [.pointer (some ⟨sb, 0, none⟩)]) Tryz.func25 rfl rfl rfl ?_
  refine go ?_
  refine WO.cal (kv_none sb lb n m uc ua L) ?_
  rintro v M ⟨rfl, rfl⟩
  refine go ?_
  exact ⟨rfl, [_], ⟨Res.tmp rfl, trivial⟩, _, ent, rfl, rfl⟩
theorem kv_Free0 (sb lb n uc : Nat) (ua : Option Addr) (R : List HP) (h1 : 2 ≤ n) (h2 : n ≤ 2048) (hua : SomeA ua (emB n).length) :
    TriE Tryz.prog 24 #[.pointer (some ⟨sb, 0, none⟩)] (fun v M => v = .int .i64 ((n : Int) - 2) ∧ M = pts sb (.cells (StL lb ua uc (emB n).length n).toArray 34) :: OS ua uc (emB n) :: R) (pts sb (.cells (StL lb ua uc (emB n).length n).toArray 34) :: OS ua uc (emB n) :: R) := by
  have hel := emB_len (n := n) (by omega)
  have hnl := emN_len (n := n) (by omega)
  have hru : ∀ M, RdS 1 ua (emN n).length ((emN n).map u8) (OS ua uc (emB n) :: M) := fun M => by
    have := OS.rd (s := emB n) (a := ua) (c := uc) (L := OS ua uc (emB n) :: M) Tk.here hua
    rw [hel, ← hnl, ← emN_map] at this
    exact this
  have hLe := fun L => bm_Len ua (emB n).length uc (n : Int) L
  have hUs := fun L r => bm_Used ua uc (emN n) (n : Int) L (by omega) (emN_ok n) r
  rw [emN_used (by omega)] at hUs
  unfold BV at hUs
  rw [hnl, ← hel] at hUs
  rw [hnl, ← hel] at hru
  refine Tri.of (N := 18) (args := [.pointer (some ⟨sb, 0, none⟩)]) Tryz.func24 rfl rfl rfl ?_
  refine go ?_
  refine WO.cal (kv_none sb lb n _ uc ua _) ?_
  rintro v M ⟨rfl, rfl⟩
  refine go ?_
  refine W.drawB #[0, 1, 3, 7, 15, 31, 0, 64, 192, 448, 960, 2047, 4095, 8191] [pts sb (.cells (StL lb ua uc (emB n).length n).toArray 34), OS ua uc (emB n)] R rfl (by kernel_rfl) (by kernel_rfl) (by kernel_rfl) ent ?_
  refine go ?_
  refine DB.cal hl hl (hLe _) ?_
  rintro v M ⟨rfl, rfl⟩
  refine ⟨[], R, ent, ?_⟩
  refine go ?_
  refine DB.cal hl hl (hUs _ (hru _).cons) ?_
  rintro v M ⟨rfl, rfl⟩
  refine ⟨[], R, ent, ?_⟩
  refine go ?_
  refine ⟨pts sb (.cells (StL lb ua uc (emB n).length n).toArray 34) :: OS ua uc (emB n) :: R, ent, ?_⟩
  refine go ?_
  exact ⟨rfl, [_], ⟨Res.tmp rfl, trivial⟩, _, ent, rfl, rfl⟩
theorem sl_BinP0 (k : Byt) (L : List HP) :
    TriE Tryz.prog 130 #[.slice none 0 0, strV k, .func (.func 131) #[] #[]] (fun v M => v = .tuple #[.int .i64 0, .bool false] ∧ M = L) L := by
  refine Tri.of (N := 49) (args := [.slice none 0 0, strV k, .func (.func 131) #[] #[]]) Tryz.func130 rfl rfl rfl ?_
  refine go ?_
  refine W.loopS 34359709184 rfl (fun _ : Unit => [(9, .int .i64 0), (10, .int .i64 0)]) (fun _ => L) (fun _ => True) (fun _ => 0) () ⟨rfl, rfl, trivial⟩ trivial (Ent.app ent) ?_
  intro _ bg _
  refine go ?_
  exact ⟨rfl, [_, _], ⟨Res.tmp rfl, Res.tmp rfl, trivial⟩, _, ent, rfl, rfl⟩
theorem kv_page0 (k : Byt) (ua : Option Addr) (uc m : Nat) (n : Int) (L : List HP) :
    TriE Tryz.prog 77 #[.agg #[.slice none 0 0, .slice ua m uc, .int .i64 n], strV k] (fun v M => v = .int .i64 (-1) ∧ M = L) L := by
  refine Tri.of (N := 24) (args := [.agg #[.slice none 0 0, .slice ua m uc, .int .i64 n], strV k]) Tryz.func77 rfl rfl rfl ?_
  refine go ?_
  intro b2
  refine go ?_
  refine WO.cal (sl_BinP0 k _) ?_
  rintro v M ⟨rfl, rfl⟩
  refine go ?_
  exact ⟨rfl, [_], ⟨Res.tmp rfl, trivial⟩, _, ent, rfl, rfl⟩
theorem kv_find0 (k : Byt) (ua : Option Addr) (uc m : Nat) (n : Int) (L : List HP) :
    TriE Tryz.prog 44 #[.agg #[.slice none 0 0, .slice ua m uc, .int .i64 n], strV k] (fun v M => v = .tuple #[.int .i64 0, .int .i64 0, .bool false] ∧ M = L) L := by
  refine Tri.of (N := 29) (args := [.agg #[.slice none 0 0, .slice ua m uc, .int .i64 n], strV k]) Tryz.func44 rfl rfl rfl ?_
  refine go ?_
  intro b2
  refine go ?_
  refine WO.cal (kv_page0 k ua uc m n _) ?_
  rintro v M ⟨rfl, rfl⟩
  refine go ?_
  exact ⟨rfl, [_, _, _], ⟨Res.tmp rfl, Res.tmp rfl, Res.tmp rfl, trivial⟩, _, ent, rfl, rfl⟩
theorem kv_Get0 (sb lb n m uc : Nat) (ua : Option Addr) (k : Byt) (L : List HP) [r : Rd L sb (.cells (StL lb ua uc m n).toArray 34 (0, 0))] :
    TriE Tryz.prog 19 #[.pointer (some ⟨sb, 0, none⟩), strV k] (fun v M => v = .tuple #[strV [], .int .i64 13] ∧ M = L) L := by
  refine Tri.of (N := 70) (args := [.pointer (some ⟨sb, 0, none⟩), strV k]) Tryz.func19 rfl rfl rfl ?_
  refine go ?_
  refine WO.cal (kv_none sb lb n m uc ua L) ?_
  rintro v M ⟨rfl, rfl⟩
  refine go ?_
  refine WO.cal (kv_find0 k ua uc m n _) ?_
  rintro v M ⟨rfl, rfl⟩
  refine go ?_
  exact ⟨rfl, [_, _], ⟨Res.tmp rfl, Res.tmp rfl, trivial⟩, _, ent, rfl, rfl⟩
theorem kv_Keys0 (sb lb n m uc : Nat) (ua : Option Addr) (k : Byt) (L : List HP) [r : Rd L sb (.cells (StL lb ua uc m n).toArray 34 (0, 0))] :
    TriE Tryz.prog 22 #[.pointer (some ⟨sb, 0, none⟩), strV k] (fun v M => v = .slice none 0 0 ∧ M = L) L := by
  refine Tri.of (N := 41) (args := [.pointer (some ⟨sb, 0, none⟩), strV k]) Tryz.func22 rfl rfl rfl ?_
  refine go ?_
  refine WO.cal (kv_none sb lb n m uc ua L) ?_
  rintro v M ⟨rfl, rfl⟩
  refine go ?_
  refine W.loopS 1099511366304 rfl (fun _ : Unit => [(5, .slice none 0 0), (18, .int .i64 0)]) (fun _ => M) (fun _ => True) (fun _ => 0) () ⟨rfl, rfl, trivial⟩ trivial (Ent.app ent) ?_
  intro _ bg _
  refine go ?_
  exact ⟨rfl, [_], ⟨Res.tmp rfl, trivial⟩, _, ent, rfl, rfl⟩
theorem kv_Len0 (sb lb n m uc : Nat) (ua : Option Addr) (L : List HP) [r : Rd L sb (.cells (StL lb ua uc m n).toArray 34 (0, 0))] :
    TriE Tryz.prog 23 #[.pointer (some ⟨sb, 0, none⟩)] (fun v M => v = .int .i64 0 ∧ M = L) L := by
  refine Tri.of (N := 6) (args := [.pointer (some ⟨sb, 0, none⟩)]) Tryz.func23 rfl rfl rfl ?_
  refine go ?_
  refine WO.cal (kv_Keys0 sb lb n m uc ua [] L) ?_
  rintro v M ⟨rfl, rfl⟩
  refine go ?_
  exact ⟨rfl, [_], ⟨Res.tmp rfl, trivial⟩, _, ent, rfl, rfl⟩
/-- An empty store that was made: its items. -/
abbrev EmH (db sb lb mb : Nat) (ua : Option Addr) (uc n : Nat) (g : Lg) (d : Dv) (R : List HP) : List HP := pts sb (.cells (StL lb ua uc (emB n).length n).toArray 34) :: OS ua uc (emB n) :: LgP lb db g mb :: WetH mb g.wet :: DevH db d :: R
theorem Em.split {e : Em} (hA : e.okA = true) : fmtS (Dv.new e.blocks) e.log = (e.d0, 0) ∧ e.d0.waits.length ≤ 1000 ∧ openP e.d0 = (e.d1, some e.g1, 0) ∧ lgOkB e.g1 = true ∧ e.d1.waits.length ≤ 1000 ∧ e.g1.log + 2 ≤ e.d1.kept.length ∧ homeN e.d1 e.g1 = e.n ∧ e.g1.used + 4 ≤ e.g1.log ∧ refP e.d1 e.g1 e.cs = 0 ∧ (doneP e.d1 e.g1 e.cs).2.2 = 0 := by
  unfold Em.okA at hA
  simp only [Bool.and_eq_true, decide_eq_true_eq] at hA
  obtain ⟨a1, a2, a3, a4, a5, a6, a7, a8, a9, a10, a11⟩ := hA
  refine ⟨by rw [← a1]; rfl, a2, ?_, a5, a6, a7, a8, a9, a10, a11⟩
  obtain ⟨g, hg⟩ := Option.isSome_iff_exists.1 a4
  have : e.g1 = g := by unfold Em.g1; rw [hg]; rfl
  rw [this, ← hg, ← a3]
  rfl
theorem Em.splitB {e : Em} (hB : e.okB = true) : e.d2.waits.length ≤ 1000 ∧ openP e.d2 = (e.d3, some e.g3, 0) ∧ lgOkB e.g3 = true ∧ e.g3.log + 2 ≤ e.d3.kept.length ∧ homeN e.d3 e.g3 = e.n ∧ readL e.d3 e.g3 0 = (e.d4, e.g4, zero256, 0) ∧ readL e.d4 e.g4 1 = (e.d5, e.g5, padB (emB e.n), 0) := by
  unfold Em.okB at hB
  simp only [Bool.and_eq_true, decide_eq_true_eq] at hB
  obtain ⟨a1, a3, a4, a5, a7, a8, a9, a10⟩ := hB
  refine ⟨a1, ?_, a5, a7, a8, ?_, ?_⟩
  · obtain ⟨g, hg⟩ := Option.isSome_iff_exists.1 a4
    have : e.g3 = g := by unfold Em.g3; rw [hg]; rfl
    rw [this, ← hg, ← a3]
    rfl
  · have : readL e.d3 e.g3 0 = ((readL e.d3 e.g3 0).1, (readL e.d3 e.g3 0).2.1, (readL e.d3 e.g3 0).2.2) := rfl
    rw [this, a9]
    rfl
  · have : readL e.d4 e.g4 1 = ((readL e.d4 e.g4 1).1, (readL e.d4 e.g4 1).2.1, (readL e.d4 e.g4 1).2.2) := rfl
    rw [this, a10]
    rfl
theorem l13_Made0 (e : Em) (R : List HP) (hb : 1 ≤ e.blocks ∧ e.blocks ≤ 4096) (hlg : e.log ≤ 4096) (hA : e.okA = true) (hB : e.okB = true) (h1 : 2 ≤ e.n) (h2 : e.n ≤ 2048) :
    TriE Tryz.prog 35 #[.int .i64 e.blocks, .int .i64 e.log] (fun v M => ∃ db sb lb mb ua uc, v = .tuple #[.pointer (some ⟨db, 0, none⟩), .pointer (some ⟨sb, 0, none⟩)] ∧ SomeA ua (emB e.n).length ∧ M = EmH db sb lb mb ua uc e.n e.g5 e.d5 R) R := by
  obtain ⟨a1, a2, a3, a4, a5, a6, a7, a8, a9, a10⟩ := Em.split hA
  obtain ⟨b1, b2, b3, b4, b5, b6, b7⟩ := Em.splitB hB
  obtain ⟨w1, sq1⟩ := lgOkB_w a4
  obtain ⟨w3, sq3⟩ := lgOkB_w b3
  have ok0 := Dv.new_ok (n := e.blocks) hb.2
  have hk0 : (Dv.new e.blocks).kept.length = e.blocks := by simp [Dv.new]
  have a10' : doneP e.d1 e.g1 [(0, zero256), (1, padB (emB e.n))] = (e.d2, (doneP e.d1 e.g1 e.cs).2.1, 0) := by
    have : doneP e.d1 e.g1 e.cs = ((doneP e.d1 e.g1 e.cs).1, (doneP e.d1 e.g1 e.cs).2.1, (doneP e.d1 e.g1 e.cs).2.2) := rfl
    rw [a10] at this
    exact this
  have ok2 : e.d2.Ok := by
    have f1 := fmtS_step (Dv.new e.blocks) ok0 e.log
    rw [a1] at f1
    have f2 := openP_step e.d0 f1.1
    rw [a3] at f2
    have f3 := doneP_step e.d1 e.g1 e.cs f2.1
    exact f3.1
  refine Tri.of (N := 25) (args := [.int .i64 e.blocks, .int .i64 e.log]) Tryz.func35 rfl rfl rfl ?_
  refine go ?_
  refine WO.cal (dv_New e.blocks _ (by omega) (by omega)) ?_
  rintro v M ⟨db, rfl, rfl⟩
  refine go ?_
  rw [Int.toNat_natCast]
  refine go ?_
  refine WO.cal (kv_Format0 db (Dv.new e.blocks) e.d0 e.d1 e.d2 e.log e.g1 _ e.n _ ok0 (Nat.zero_le _) (by omega) (by omega) a1 a2 a3 w1 a5 a6 a7 h1 h2 a8 sq1 a9 a10') ?_
  rintro v M ⟨rfl, rfl⟩
  refine go ?_
  refine WO.cal (kv_Open0 db e.d2 e.d3 e.d4 e.d5 e.g3 e.g4 e.g5 e.n _ ok2 b1 b2 w3.eq b4 b5 h1 h2 b6 b7) ?_
  rintro v M ⟨sb, lb, mb, ua, uc, rfl, hua, rfl⟩
  refine go ?_
  exact ⟨rfl, [_, _], ⟨Res.tmp rfl, Res.tmp rfl, trivial⟩, _, ent, db, sb, lb, mb, ua, uc, rfl, hua, rfl⟩
end Go.SL

/- Layer 36 (space): what operations need, and what there is; walked. -/
namespace Go.SL
open Go.Proofs
set_option linter.unusedVariables false
set_option linter.unusedSimpArgs false
set_option linter.unusedSectionVars false
set_option maxRecDepth 10000
set_option maxHeartbeats 4000000
/-- An operation: a key, its value, or that it goes. -/
structure KOp where
  key : Byt
  val : Byt
  del : Bool
instance : Inhabited KOp := ⟨⟨[], [], false⟩⟩
def KOp.L (o : KOp) : List Value := [strV o.key, strV o.val, .bool o.del]
def opR (l : List KOp) : List Value := l.flatMap KOp.L
theorem opR_len (l : List KOp) : (opR l).length = l.length * 3 := flat_len (g := KOp.L) (n := 3) (fun _ => rfl) l
theorem opR_at (l : List KOp) {i : Nat} (h : i < l.length) : lsub (opR l) (i * 3) 3 = l[i].L := flat_sub (g := KOp.L) (n := 3) (fun _ => rfl) l i h
def spP : List KOp → Nat
  | [] => 0
  | o :: l => (if o.del then 0 else 1) + spP l
def spV : List KOp → Nat
  | [] => 0
  | o :: l => (if o.del then 0 else (o.val.length + 255) / 256) + spV l
theorem spP_le : ∀ l, spP l ≤ l.length
  | [] => Nat.le_refl _
  | o :: l => by
    have := spP_le l
    unfold spP
    rw [List.length_cons]
    split <;> omega
theorem spV_le : ∀ l : List KOp, (∀ o ∈ l, o.val.length ≤ 1000000) → spV l ≤ l.length * 4000
  | [], _ => Nat.le_refl _
  | o :: l, h => by
    have := spV_le l (fun o ho => h o (List.mem_cons_of_mem _ ho))
    have h1 := h o (List.mem_cons_self ..)
    unfold spV
    rw [List.length_cons]
    split <;> omega
abbrev needV (a b c : Int) : Value := .agg #[.int .i64 a, .int .i64 b, .int .i64 c]
attribute [local irreducible] W WO SV OW SW Tri Ent Tk Has Src SrcK DA DB DP RdS Own OwnT MapH WetH RngH
theorem lf_Blocks (n : Nat) (L : List HP) (hn : n ≤ 4611686018427387904) : TriE Tryz.prog 31 #[.int .i64 n] (fun v M => v = .int .i64 ((n + 255) / 256 : Nat) ∧ M = L) L := by
  refine Tri.of (N := 9) (args := [.int .i64 n]) Tryz.func31 rfl rfl rfl ?_
  refine go ?_
  by_cases h : n < 1
  · obtain rfl : n = 0 := by omega
    refine go ?_
    exact ⟨rfl, [_], ⟨Res.tmp rfl, trivial⟩, _, ent, rfl, rfl⟩
  refine go ?_
  refine ⟨rfl, [_], ⟨Res.tmp rfl, trivial⟩, _, ent, ?_, rfl⟩
  show Value.int _ _ = _
  congr 1
  omega
theorem sp_maps (n : Nat) (L : List HP) (hn : n ≤ 4611686018427387904) : TriE Tryz.prog 32 #[.int .i64 n] (fun v M => v = .int .i64 ((n + 2047) / 2048 : Nat) ∧ M = L) L := by
  refine Tri.of (N := 9) (args := [.int .i64 n]) Tryz.func32 rfl rfl rfl ?_
  refine go ?_
  by_cases h : n < 1
  · obtain rfl : n = 0 := by omega
    refine go ?_
    exact ⟨rfl, [_], ⟨Res.tmp rfl, trivial⟩, _, ent, rfl, rfl⟩
  refine go ?_
  refine ⟨rfl, [_], ⟨Res.tmp rfl, trivial⟩, _, ent, ?_, rfl⟩
  show Value.int _ _ = _
  congr 1
  omega
theorem sp_Of (home : Nat) (a : Option Addr) (c : Nat) (l : List KOp) (L : List HP) (hh : home ≤ 1000000) (hcn : l.length ≤ 100000) (hv : ∀ o ∈ l, o.val.length ≤ 1000000) (r : RdS 3 a l.length (opR l) L) :
    TriE Tryz.prog 8 #[.int .i64 home, .slice a l.length c] (fun v M => v = needV ((spV l + spP l + 1 : Nat) : Int) ((1 + (home + 2047) / 2048 + spV l + spP l + 2 * l.length : Nat) : Int) ((spP l + 1 : Nat) : Int) ∧ M = L) L := by
  have hrl := opR_len l
  have hpl := spP_le l
  have hvl := spV_le l hv
  have hP : spP l = spP l := rfl
  generalize hPP : spP l = PP at *
  generalize hVV : spV l = VV at *
  refine Tri.of (N := 45) (args := [.int .i64 home, .slice a l.length c]) Tryz.func8 rfl rfl rfl ?_
  refine go ?_
  intro b4
  refine go ?_
  refine W.loopS 134216032 rfl (fun q : Nat × Nat × Nat => [(5, .int .i64 (q.2.1 : Int)), (6, .int .i64 (q.2.2 : Int)), (11, .int .i64 (q.1 : Int))]) (fun q => pts b4 (.cells [.int .i64 0, .int .i64 0, .int .i64 0].toArray 23) :: L)
    (fun q => q.1 ≤ l.length ∧ q.2.1 + spP (l.drop q.1) = PP ∧ q.2.2 + spV (l.drop q.1) = VV) (fun q => l.length - q.1) (0, 0, 0) ⟨rfl, rfl, rfl, trivial⟩ ⟨Nat.zero_le _, by dsimp only; rw [List.drop_zero, Nat.zero_add]; exact hPP, by dsimp only; rw [List.drop_zero, Nat.zero_add]; exact hVV⟩ (Ent.app ent) ?_
  rintro ⟨i, p, v⟩ bg ⟨hi, he1, he2⟩
  dsimp only at hi he1 he2 ⊢
  by_cases h9 : i < l.length
  · have hat := opR_at l h9
    have hdc : l.drop i = l[i] :: l.drop (i + 1) := (List.getElem_cons_drop h9).symm
    have hvv := hv _ (List.getElem_mem h9)
    rw [hdc] at he1 he2
    obtain ⟨b9, o9, rfl⟩ := r.at (by omega)
    generalize l[i] = o at *
    obtain ⟨ok, ov, od⟩ := o
    dsimp only at hvv
    have hs1 : spP (⟨ok, ov, od⟩ :: l.drop (i + 1)) = (if od then 0 else 1) + spP (l.drop (i + 1)) := rfl
    have hs2 : spV (⟨ok, ov, od⟩ :: l.drop (i + 1)) = (if od then 0 else (ov.length + 255) / 256) + spV (l.drop (i + 1)) := rfl
    rw [hs1] at he1
    rw [hs2] at he2
    clear hs1 hs2 hdc
    have hat : lsub (opR l) (i * 3) 3 = [strV ok, strV ov, .bool od] := hat
    refine go ?_
    refine WO.sv rfl ?_
    refine SV.loadRN (k := 3) (vs := [strV ok, strV ov, .bool od]) (i * 3) rfl r.cons (by omega) (by decide) (by rw [hrl]; omega) hat ?_
    refine go ?_
    intro b8
    cases od with
    | true =>
      rw [if_pos rfl, Nat.zero_add] at he1 he2
      refine go ?_
      exact ⟨(i + 1, p, v), ⟨rfl, rfl, rfl, trivial⟩, rfl, ⟨h9, he1, he2⟩, by dsimp only; omega, Ent.app ent⟩
    | false =>
      rw [if_neg (by decide)] at he1 he2
      refine go ?_
      refine WO.cal (lf_Blocks ov.length _ (by omega)) ?_
      rintro v M ⟨rfl, rfl⟩
      refine go ?_
      refine ⟨(i + 1, p + 1, v + (ov.length + 255) / 256), ⟨rfl, ?_, rfl, trivial⟩, rfl, ⟨h9, by dsimp only; omega, by dsimp only; omega⟩, by dsimp only; omega, Ent.app ent⟩
      show Value.int _ _ = Value.int _ _
      congr 1
  obtain rfl : i = l.length := by omega
  rw [List.drop_length] at he1 he2
  rw [show spP [] = 0 from rfl, Nat.add_zero] at he1
  rw [show spV [] = 0 from rfl, Nat.add_zero] at he2
  subst he1
  subst he2
  refine go ?_
  refine WO.cal (sp_maps home _ (by omega)) ?_
  rintro v M ⟨rfl, rfl⟩
  refine go ?_
  refine ⟨rfl, [_], ⟨Res.cell rfl le0 nl, trivial⟩, L, ent, ?_, rfl⟩
  show Value.agg _ = _
  unfold needV
  congr 2
end Go.SL

/- Layer 36 (space): what fits; no room where there is no store; walked. -/
namespace Go.SL
open Go.Proofs
set_option linter.unusedVariables false
set_option linter.unusedSimpArgs false
set_option linter.unusedSectionVars false
set_option maxRecDepth 10000
set_option maxHeartbeats 4000000
def smB (o : KOp) : Bool := !o.del && decide (256 < o.val.length)
theorem Rd.ofEnt {L M : List HP} {b : Nat} {o : Obj} (e : Ent M L) (r : Rd L b o) : Rd M b o := ⟨fun h x => r.rd h (e h x)⟩
attribute [local irreducible] W WO SV OW SW Tri Ent Tk Has Src SrcK DA DB DP RdS Own OwnT MapH WetH RngH
theorem sp_Small1 (k v : Byt) (dl : Bool) (L : List HP) (hv : v.length ≤ 1000000) :
    TriE Tryz.prog 34 #[.agg #[strV k, strV v, .bool dl]] (fun w M => w = .bool (smB ⟨k, v, dl⟩) ∧ M = L) L := by
  refine Tri.of (N := 12) (args := [.agg #[strV k, strV v, .bool dl]]) Tryz.func34 rfl rfl rfl ?_
  refine go ?_
  intro b1
  cases dl with
  | true =>
    refine go ?_
    exact ⟨rfl, [_], ⟨Res.tmp rfl, trivial⟩, _, ent, rfl, rfl⟩
  | false =>
    by_cases h : 256 < v.length
    · have e : smB ⟨k, v, false⟩ = true := by unfold smB; simp [h]
      rw [e]
      refine go ?_
      exact ⟨rfl, [_], ⟨Res.tmp rfl, trivial⟩, _, ent, rfl, rfl⟩
    · have e : smB ⟨k, v, false⟩ = false := by unfold smB; simp [h]
      rw [e]
      refine go ?_
      exact ⟨rfl, [_], ⟨Res.tmp rfl, trivial⟩, _, ent, rfl, rfl⟩
theorem sl_IndexOp (a : Option Addr) (c : Nat) (l : List KOp) (L : List HP) (hcn : l.length ≤ 100000) (hv : ∀ o ∈ l, o.val.length ≤ 1000000) (r : RdS 3 a l.length (opR l) L) :
    TriE Tryz.prog 68 #[.slice a l.length c, .func (.func 34) #[] #[]] (fun w M => ∃ n : Int, w = .int .i64 n ∧ decide (0 ≤ n) = l.any smB ∧ n < 1000000 ∧ -2 < n ∧ M = L) L := by
  have hrl := opR_len l
  generalize hF : l.any smB = F
  refine Tri.of (N := 19) (args := [.slice a l.length c, .func (.func 34) #[] #[]]) Tryz.func68 rfl rfl rfl ?_
  refine go ?_
  refine W.loopS 524080 rfl (fun i : Nat => [(8, .int .i64 (i : Int))]) (fun _ => L) (fun i => i ≤ l.length ∧ (l.drop i).any smB = F) (fun i => l.length - i) 0 ⟨rfl, trivial⟩ ⟨Nat.zero_le _, hF⟩ (Ent.app ent) ?_
  rintro i bg ⟨hi, he⟩
  dsimp only at hi he ⊢
  by_cases h9 : i < l.length
  · have hat := opR_at l h9
    have hdc : l.drop i = l[i] :: l.drop (i + 1) := (List.getElem_cons_drop h9).symm
    have hvv := hv _ (List.getElem_mem h9)
    rw [hdc, List.any_cons] at he
    obtain ⟨b9, o9, rfl⟩ := r.at (by omega)
    generalize l[i] = o at *
    obtain ⟨ok, ov, od⟩ := o
    dsimp only at hvv
    have hat : lsub (opR l) (i * 3) 3 = [strV ok, strV ov, .bool od] := hat
    generalize hsm : smB ⟨ok, ov, od⟩ = sm at *
    refine go ?_
    refine WO.sv rfl ?_
    refine SV.loadRN (k := 3) (vs := [strV ok, strV ov, .bool od]) (i * 3) rfl r (by omega) (by decide) (by rw [hrl]; omega) hat ?_
    refine go ?_
    refine WO.callW (vs := [.agg #[strV ok, strV ov, .bool od]]) (cs := []) rfl Tryz.func34 rfl rfl rfl rfl (sp_Small1 ok ov od _ hvv) ?_
    rintro v M ⟨rfl, rfl⟩
    rw [hsm]
    cases sm with
    | true =>
      rw [Bool.true_or] at he
      refine go ?_
      exact ⟨rfl, [_], ⟨Res.tmp rfl, trivial⟩, _, ent, (i : Int), rfl, by rw [← he]; exact decide_eq_true (by omega), by omega, by omega, rfl⟩
    | false =>
      rw [Bool.false_or] at he
      refine go ?_
      exact ⟨i + 1, ⟨rfl, trivial⟩, rfl, ⟨h9, he⟩, by omega, Ent.app ent⟩
  obtain rfl : i = l.length := by omega
  rw [List.drop_length, List.any_nil] at he
  refine go ?_
  exact ⟨rfl, [_], ⟨Res.tmp rfl, trivial⟩, _, ent, -1, rfl, he, by decide, by decide, rfl⟩
theorem sp_Small (a : Option Addr) (c : Nat) (l : List KOp) (L : List HP) (hcn : l.length ≤ 100000) (hv : ∀ o ∈ l, o.val.length ≤ 1000000) (r : RdS 3 a l.length (opR l) L) :
    TriE Tryz.prog 9 #[.slice a l.length c] (fun w M => w = .bool (!l.any smB) ∧ M = L) L := by
  have hC : TriE Tryz.prog 33 #[.slice a l.length c, .func (.func 34) #[] #[]] (fun w M => w = .bool (l.any smB) ∧ M = L) L := by
    refine Tri.of (N := 9) (args := [.slice a l.length c, .func (.func 34) #[] #[]]) Tryz.func33 rfl rfl rfl ?_
    refine go ?_
    refine WO.cal (sl_IndexOp a c l L hcn hv r) ?_
    rintro v M ⟨n, rfl, hn, _, _, rfl⟩
    refine go ?_
    rw [← hn]
    refine WO.sv rfl ?_
    refine SV.geq rfl rfl ?_
    refine go ?_
    exact ⟨rfl, [_], ⟨Res.tmp rfl, trivial⟩, _, ent, rfl, rfl⟩
  refine Tri.of (N := 6) (args := [.slice a l.length c]) Tryz.func9 rfl rfl rfl ?_
  refine go ?_
  refine WO.cal (hC) ?_
  rintro v M ⟨rfl, rfl⟩
  refine go ?_
  exact ⟨rfl, [_], ⟨Res.tmp rfl, trivial⟩, _, ent, rfl, rfl⟩
theorem sp_Fits (a b c x y z : Int) (L : List HP) : TriE Tryz.prog 14 #[needV a b c, needV x y z] (fun w M => w = .bool (decide (a ≤ x ∧ b ≤ y ∧ c ≤ z)) ∧ M = L) L := by
  refine Tri.of (N := 24) (args := [needV a b c, needV x y z]) Tryz.func14 rfl rfl rfl ?_
  refine go ?_
  intro b2
  refine go ?_
  intro b3
  by_cases h1 : a ≤ x
  rotate_left
  · rw [decide_eq_false (fun h => h1 h.1)]
    refine go ?_
    exact ⟨rfl, [_], ⟨Res.tmp rfl, trivial⟩, _, ent, rfl, rfl⟩
  by_cases h2 : b ≤ y
  rotate_left
  · rw [decide_eq_false (fun h => h2 h.2.1)]
    refine go ?_
    exact ⟨rfl, [_], ⟨Res.tmp rfl, trivial⟩, _, ent, rfl, rfl⟩
  by_cases h3 : c ≤ z
  · rw [decide_eq_true ⟨h1, h2, h3⟩]
    refine go ?_
    exact ⟨rfl, [_], ⟨Res.tmp rfl, trivial⟩, _, ent, rfl, rfl⟩
  · rw [decide_eq_false (fun h => h3 h.2.2)]
    refine go ?_
    exact ⟨rfl, [_], ⟨Res.tmp rfl, trivial⟩, _, ent, rfl, rfl⟩
theorem sp_HaveU (x : Value) (log : Int) (L : List HP) (u : ∀ M, Ent M L → UnS x M) :
    TriE Tryz.prog 7 #[x, .int .i64 log] (fun w M => w = needV 0 0 0 ∧ M = L) L := by
  refine Tri.of (N := 26) (args := [x, .int .i64 log]) Tryz.func7 rfl rfl rfl ?_
  refine go ?_
  intro b4
  refine go ?_
  refine WO.cal (kv_GetU x [] _ (u _ ent)) ?_
  rintro v M ⟨rfl, rfl⟩
  refine go ?_
  exact ⟨rfl, [_], ⟨Res.cell rfl le0 nl, trivial⟩, _, ent, rfl, rfl⟩
theorem sp_Have0 (sb lb n uc : Nat) (ua : Option Addr) (log : Int) (R : List HP) (h1 : 2 ≤ n) (h2 : n ≤ 2048) (hua : SomeA ua (emB n).length) (hlg : 0 ≤ log ∧ log ≤ 4096) :
    TriE Tryz.prog 7 #[.pointer (some ⟨sb, 0, none⟩), .int .i64 log] (fun w M => w = needV ((n : Int) - 2) (min 70 (log - min log 2)) 120 ∧ M = pts sb (.cells (StL lb ua uc (emB n).length n).toArray 34) :: OS ua uc (emB n) :: R) (pts sb (.cells (StL lb ua uc (emB n).length n).toArray 34) :: OS ua uc (emB n) :: R) := by
  refine Tri.of (N := 26) (args := [.pointer (some ⟨sb, 0, none⟩), .int .i64 log]) Tryz.func7 rfl rfl rfl ?_
  refine go ?_
  intro b4
  refine go ?_
  refine WO.cal (kv_Get0 sb lb n _ uc ua [] _) ?_
  rintro v M ⟨rfl, rfl⟩
  refine go ?_
  refine WO.calX (kv_Free0 sb lb n uc ua (pts b4 (.cells [.int .i64 0, .int .i64 0, .int .i64 0].toArray 23) :: R) h1 h2 hua) ent ?_
  rintro v M ⟨rfl, rfl⟩
  refine go ?_
  refine WO.cal (kv_Leaves0 sb lb n _ uc ua _) ?_
  rintro v M ⟨rfl, rfl⟩
  refine go ?_
  exact ⟨rfl, [_], ⟨Res.cell rfl le0 nl, trivial⟩, _, ent, rfl, rfl⟩
theorem l36_one (L : List HP) : TriE Tryz.prog 10 #[] (fun w M => w = .bool true ∧ M = L) L := by
  refine Tri.of (N := 34) (args := []) Tryz.func10 rfl rfl rfl ?_
  refine go ?_
  refine WO.sv rfl ?_
  refine SV.lit rfl rfl rfl parts rfl nl ?_
  intro rb
  refine go ?_
  refine WO.cal (sp_Of 100 (some ⟨rb, 0, none⟩) 1 [⟨[97], [120], false⟩] _ (by decide) (by decide) (fun o ho => by rw [List.mem_singleton.1 ho]; decide) (RdS.all (sz := 3) (n := 1) rfl)) ?_
  rintro v M ⟨rfl, rfl⟩
  have e3 : needV ((spV [(⟨[97], [120], false⟩ : KOp)] + spP [(⟨[97], [120], false⟩ : KOp)] + 1 : Nat) : Int) ((1 + (100 + 2047) / 2048 + spV [(⟨[97], [120], false⟩ : KOp)] + spP [(⟨[97], [120], false⟩ : KOp)] + 2 * [(⟨[97], [120], false⟩ : KOp)].length : Nat) : Int) ((spP [(⟨[97], [120], false⟩ : KOp)] + 1 : Nat) : Int) = needV 3 6 2 := rfl
  rw [e3]
  clear e3
  refine go ?_
  intro b1
  refine go ?_
  refine WO.cal (l13_Made0 ⟨60, 20⟩ _ (by decide) (by decide) em60 em60b (by decide) (by decide)) ?_
  rintro v M ⟨db, sb, lb, mb, ua, uc, rfl, hua, rfl⟩
  rw [show Em.n ⟨60, 20⟩ = 38 from rfl] at *
  generalize Em.g5 ⟨60, 20⟩ = g
  generalize Em.d5 ⟨60, 20⟩ = d
  refine go ?_
  generalize hT : ([LgP lb db g mb, WetH mb g.wet, DevH db d] ++ L) = T
  have hT2 : Ent (LgP lb db g mb :: WetH mb g.wet :: DevH db d :: L) T := by rw [← hT]; exact Ent.refl _
  have hL : Ent T L := by rw [← hT]; exact ent
  refine W.drawB #[0, 0, 3, 7, 15, 15, 47, 127, 255, 511, 1023, 1023, 4095, 8191, 16383, 32767, 65535, 131071, 65535, 524287, 1048575, 2097151, 4194303, 8388607] [pts b1 (.cells [.int .i64 3, .int .i64 6, .int .i64 2].toArray 23)] (pts sb (.cells (StL lb ua uc (emB 38).length (38 : Nat)).toArray 34) :: OS ua uc (emB 38) :: LgP lb db g mb :: WetH mb g.wet :: DevH db d :: L) rfl (by kernel_rfl) (by kernel_rfl) (by kernel_rfl) ent ?_
  refine go ?_
  refine DB.q (v := .bool true) rfl rfl hl (SV.eqlSt (xs := [.int .i64 3, .int .i64 6, .int .i64 2]) (ys := [.int .i64 3, .int .i64 6, .int .i64 2]) (b := true) rfl rfl rfl rfl rfl (sEq_self _) eqq) ?_
  refine go ?_
  refine DB.calX hl hl (sp_Have0 sb lb 38 uc ua 20 (pts b1 (.cells [.int .i64 3, .int .i64 6, .int .i64 2].toArray 23) :: LgP lb db g mb :: WetH mb g.wet :: DevH db d :: L) (by decide) (by decide) hua (by decide)) ent ?_
  rintro v M ⟨rfl, rfl⟩
  refine ⟨[], pts sb (.cells (StL lb ua uc (emB 38).length (38 : Nat)).toArray 34) :: OS ua uc (emB 38) :: LgP lb db g mb :: WetH mb g.wet :: DevH db d :: L, ent, ?_⟩
  refine go ?_
  refine DB.cal hl hl (sp_Fits 3 6 2 (((38 : Nat) : Int) - 2) (min 70 (20 - min 20 2)) 120 _) ?_
  rintro v M ⟨rfl, rfl⟩
  rw [show decide ((3 : Int) ≤ ((38 : Nat) : Int) - 2 ∧ (6 : Int) ≤ min 70 (20 - min 20 2) ∧ (2 : Int) ≤ 120) = true from rfl]
  refine ⟨[], pts sb (.cells (StL lb ua uc (emB 38).length (38 : Nat)).toArray 34) :: OS ua uc (emB 38) :: LgP lb db g mb :: WetH mb g.wet :: DevH db d :: L, ent, ?_⟩
  refine go ?_
  refine DB.cal hl hl (sp_Fits 3 6 2 0 0 0 _) ?_
  rintro v M ⟨rfl, rfl⟩
  rw [show decide ((3 : Int) ≤ 0 ∧ (6 : Int) ≤ 0 ∧ (2 : Int) ≤ 0) = false from rfl]
  refine ⟨[], pts sb (.cells (StL lb ua uc (emB 38).length (38 : Nat)).toArray 34) :: OS ua uc (emB 38) :: LgP lb db g mb :: WetH mb g.wet :: DevH db d :: L, ent, ?_⟩
  refine go ?_
  refine DB.calX hl hl (kv_Free0 sb lb 38 uc ua (pts b1 (.cells [.int .i64 3, .int .i64 6, .int .i64 2].toArray 23) :: LgP lb db g mb :: WetH mb g.wet :: DevH db d :: L) (by decide) (by decide) hua) ent ?_
  rintro v M ⟨rfl, rfl⟩
  refine ⟨[], pts sb (.cells (StL lb ua uc (emB 38).length (38 : Nat)).toArray 34) :: OS ua uc (emB 38) :: LgP lb db g mb :: WetH mb g.wet :: DevH db d :: L, ent, ?_⟩
  refine go ?_
  refine DB.calX hl hl (sp_Have0 sb lb 38 uc ua 20 (pts b1 (.cells [.int .i64 3, .int .i64 6, .int .i64 2].toArray 23) :: LgP lb db g mb :: WetH mb g.wet :: DevH db d :: L) (by decide) (by decide) hua (by decide)) ent ?_
  rintro v M ⟨rfl, rfl⟩
  refine ⟨[], pts sb (.cells (StL lb ua uc (emB 38).length (38 : Nat)).toArray 34) :: OS ua uc (emB 38) :: LgP lb db g mb :: WetH mb g.wet :: DevH db d :: L, ent, ?_⟩
  refine go ?_
  refine ⟨L, ent, ?_⟩
  refine go ?_
  exact ⟨rfl, [_], ⟨Res.tmp rfl, trivial⟩, _, ent, rfl, rfl⟩
theorem l36_nobody (log home : Int) (L : List HP) (hm : -9223372036854775808 ≤ home ∧ home ≤ 9223372036854775807) : TriE Tryz.prog 3 #[.int .i64 log, .int .i64 home] (fun w M => w = .bool true ∧ M = L) L := by
  obtain ⟨x, hx, ex⟩ := i64_mask home 4095 (by decide)
  refine Tri.of (N := 30) (args := [.int .i64 log, .int .i64 home]) Tryz.func3 rfl rfl rfl ?_
  refine go ?_
  refine WO.cal (sp_HaveU (.pointer none) log _ (fun M _ => kv_noneN M)) ?_
  rintro v M ⟨rfl, rfl⟩
  refine go ?_
  refine WO.sv rfl ?_
  refine SV.eqlSt (xs := [.int .i64 0, .int .i64 0, .int .i64 0]) (ys := [.int .i64 0, .int .i64 0, .int .i64 0]) (b := true) rfl rfl rfl rfl rfl (sEq_self _) ?_
  refine go ?_
  intro sb
  refine go ?_
  refine WO.cal (sp_HaveU (.pointer (some ⟨sb, 0, none⟩)) log _ (fun M e => @kv_noneU sb M (Rd.ofEnt e Rd.here))) ?_
  rintro v M ⟨rfl, rfl⟩
  refine go ?_
  refine WO.sv rfl ?_
  refine SV.eqlSt (xs := [.int .i64 0, .int .i64 0, .int .i64 0]) (ys := [.int .i64 0, .int .i64 0, .int .i64 0]) (b := true) rfl rfl rfl rfl rfl (sEq_self _) ?_
  refine go ?_
  refine WO.sv rfl ?_
  refine SV.band rfl rfl ex ?_
  refine go ?_
  refine WO.cal (sp_Of x none 0 [] _ (by omega) (by decide) (fun o ho => by cases ho) RdS.nil) ?_
  rintro v M ⟨rfl, rfl⟩
  refine go ?_
  refine WO.cal (sp_Small none 0 [] _ (by decide) (fun o ho => by cases ho) RdS.nil) ?_
  rintro v M ⟨rfl, rfl⟩
  refine go ?_
  refine WO.cal (l36_one _) ?_
  rintro v M ⟨rfl, rfl⟩
  refine go ?_
  exact ⟨rfl, [_], ⟨Res.tmp rfl, trivial⟩, _, ent, rfl, rfl⟩
end Go.SL
