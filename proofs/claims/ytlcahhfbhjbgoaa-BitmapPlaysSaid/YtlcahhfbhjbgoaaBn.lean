/- Layer 11: what its functions do (2). -/
import Derived.Test.YtlcahhfbhjbgoaaBk
namespace Go.SL
open Go.Proofs
set_option linter.unusedVariables false
set_option maxRecDepth 10000
attribute [local irreducible] W WO SV OW SW Tri Ent Tk Has Src SrcK DA DB RdS Own

theorem bm_set (a : Option Addr) (c : Nat) (bs : List Nat) (n : Nat) (from_ many : Int) (use : Bool) (L : List HP) (h0 : bs.length ≤ 1000) (hn : n ≤ 8 * bs.length) (ok : OkB bs) (r : RdS 1 a bs.length (bs.map u8) L)
    (hf : -9223372036854775808 ≤ from_ ∧ from_ ≤ 9223372036854775807) (hm : -9223372036854775808 ≤ many ∧ many ≤ 9223372036854775807) :
    TriE Try.prog 54 #[BV a c bs n, .int .i64 from_, .int .i64 many, .bool use]
      (fun v M => ∃ a' c' bs', Run2 bs bs' (inRun n from_ many) use ∧ v = BV a' c' bs' n ∧ SomeA a' bs'.length ∧ M = OB a' c' bs' :: L) L := by
  refine Tri.of (N := 60) (args := [BV a c bs n, .int .i64 from_, .int .i64 many, .bool use]) Try.func54 rfl rfl rfl ?_
  refine go ?_
  intro b4
  refine go ?_
  intro b8
  refine go ?_
  refine W.drawB #[0, 1, 0, 4, 15, 0, 63] [pts b4 (.cells [Value.slice a bs.length c, .int .i64 n].toArray 24)] (pts b8 (.cells [Value.slice none 0 0, .int .i64 0].toArray 24) :: L) rfl (by kernel_rfl) (by kernel_rfl) (by kernel_rfl) ent ?_
  refine go ?_
  refine DB.callE (vs := [BV a c bs n]) Try.func12 rfl rfl rfl rfl hl hl (bm_Bytes a c bs n _ h0 (RdS.cons (RdS.cons r))) ?_
  rintro v M1 ⟨a', c', rfl, ha', rfl⟩
  refine ⟨[], OB a' c' bs :: pts b8 (.cells [Value.slice none 0 0, .int .i64 0].toArray 24) :: L, ent, ?_⟩
  refine go ?_
  refine DB.alloc rfl ?_
  intro b9
  refine DB.v rfl rfl rfl hl hl ?_
  refine SV.store rfl rfl cel rfl rfl rfl frz le0 nl ?_
  refine ⟨[], pts b9 (.cells [Value.slice a' bs.length c', .int .i64 n].toArray 24) :: OB a' c' bs :: pts b8 (.cells [Value.slice none 0 0, .int .i64 0].toArray 24) :: L, ent, ?_⟩
  refine go ?_
  refine ⟨pts b9 (.cells [Value.slice a' bs.length c', .int .i64 n].toArray 24) :: OB a' c' bs :: pts b8 (.cells [Value.slice none 0 0, .int .i64 0].toArray 24) :: pts b4 (.cells [Value.slice a bs.length c, .int .i64 n].toArray 24) :: L, ent, ?_⟩
  refine go ?_
  refine WO.sv rfl ?_
  refine SV.lss rfl rfl ?_
  refine go ?_
  refine W.cut 3932166 rfl (fun s : Nat × Int => [(1, .int .i64 s.1), (2, .int .i64 s.2)]) (fun _ => pts b9 (.cells [Value.slice a' bs.length c', .int .i64 n].toArray 24) :: OB a' c' bs :: pts b8 (.cells [Value.slice none 0 0, .int .i64 0].toArray 24) :: pts b4 (.cells [Value.slice a bs.length c, .int .i64 n].toArray 24) :: L)
    (fun s => (∀ k : Nat, inRun n from_ many k ↔ k < n ∧ s.1 ≤ k ∧ (k : Int) - s.1 < s.2) ∧ s.1 ≤ 9223372036854775807 ∧ -9223372036854775808 ≤ s.2 ∧ s.2 ≤ 9223372036854775807) ?_ ?_
  · refine W.if rfl ?_ ?_
    · intro h1
      refine go ?_
      exact ⟨(0, max 0 many + from_), ⟨rfl, rfl, trivial⟩, rfl, ⟨fun k => by simp only [inRun]; omega, by simp, by simp only []; omega, by simp only []; omega⟩, ent⟩
    · intro h1
      refine go ?_
      exact ⟨(from_.toNat, many), ⟨by show Value.int .i64 from_ = _; rw [Int.toNat_of_nonneg (by omega)], rfl, trivial⟩, rfl, ⟨fun k => by simp only [inRun]; omega, by simp only []; omega, by simp only []; omega, by simp only []; omega⟩, ent⟩
  rintro ⟨F, M⟩ bg ⟨hr, hF, hM1, hM2⟩
  dsimp only at hr hF hM1 hM2 ⊢
  refine go ?_
  refine W.loopS 576460752295035904 rfl (fun s : Nat × List Nat => [(10, .int .i64 s.1)])
    (fun s => pts b9 (.cells [Value.slice a' bs.length c', .int .i64 n].toArray 24) :: Own 5 1 (.slice a' bs.length c') bs.length (s.2.map u8) :: pts b8 (.cells [Value.slice none 0 0, .int .i64 0].toArray 24) :: pts b4 (.cells [Value.slice a bs.length c, .int .i64 n].toArray 24) :: L)
    (fun s => F ≤ s.1 ∧ (s.1 = F ∨ s.1 ≤ n) ∧ (F < s.1 → (s.1 : Int) - F ≤ M) ∧ s.2.length = bs.length ∧ OkB s.2 ∧ ∀ j, bitB s.2 j = if F ≤ j ∧ j < s.1 then use else bitB bs j) (fun s => n - s.1) (F, bs)
    ⟨rfl, trivial⟩ ⟨Nat.le_refl _, .inl rfl, fun h => absurd h (Nat.lt_irrefl _), rfl, ok, fun j => by rw [if_neg (by dsimp only; omega)]⟩ (fun _ _ x => x) ?_
  rintro ⟨k, cur⟩ bg2 ⟨h1, h2, h3, h4, h5, h6⟩
  dsimp only at h1 h2 h3 h4 h5 h6 ⊢
  have done : (n ≤ k ∨ M ≤ (k : Int) - F) → Run2 bs cur (inRun n from_ many) use := by
    intro hd
    refine ⟨h4, h5, fun j => ⟨fun hj => ?_, fun hj => ?_⟩⟩
    · rw [hr] at hj; rw [h6, if_pos (by omega)]
    · rw [hr] at hj
      rw [h6]
      by_cases e : F ≤ j ∧ j < k
      · exfalso; apply hj; omega
      · rw [if_neg e]
  have e8 : ((k : Int) / 8).toNat = k / 8 := by omega
  have em : ((k : Int) % 8).toNat = k % 8 := by omega
  refine go ?_
  refine WO.sv rfl ?_
  refine SV.lssC rfl rfl ?_ ?_
  · intro hk
    refine go ?_
    refine WO.sv rfl ?_
    refine SV.lssC rfl rfl ?_ ?_
    · intro hm2
      obtain ⟨b, rfl⟩ := ha' (by omega)
      refine go ?_
      have hlt : k / 8 < bs.length := by omega
      refine W.drawA rfl (by kernel_rfl) (by kernel_rfl) ?_
      refine go ?_
      have hx := h5.get (k / 8)
      have hy := pow_lt (k % 8) (by omega)
      refine DA.q (v := u8 (cur.getD (k / 8) 0)) rfl rfl (SV.loadR (k / 8) rfl (RdS.own tk ha' (by simp [h4])) (by omega) (getu (by omega)) eqq) ?_
      refine go ?_
      refine DA.q (v := u8 (2 ^ (k % 8))) rfl rfl (SV.shl rfl rfl (by omega) (by rw [u8_shl1 (by omega) (by omega), em]) eqq) ?_
      refine DA.q (v := u8 (cur.getD (k / 8) 0 &&& (255 - 2 ^ (k % 8)))) rfl rfl (SV.bandNot rfl rfl (u8_andNot _ _ rfl rfl hx hy) eqq) ?_
      refine go ?_
      refine DA.v rfl rfl rfl ?_
      refine SV.storeO (k / 8) (xs' := (clrB cur k).map u8) rfl tk (by omega) rfl rfl (by simp; omega) (map_set_u8 _ _ _) ?_
      refine go ?_
      have hc := okB_clr h5 k
      have hcl : (clrB cur k).length = cur.length := by simp [clrB]
      refine W.cond rfl (fun e => ?_) (fun e => ?_)
      · subst e
        refine W.drawA rfl (by kernel_rfl) (by kernel_rfl) ?_
        refine go ?_
        have hx := hc.get (k / 8)
        refine DA.q (v := u8 ((clrB cur k).getD (k / 8) 0)) rfl rfl (SV.loadR (k / 8) rfl (RdS.own tk ha' (by simp [hcl, h4])) (by omega) (getu (by omega)) eqq) ?_
        refine go ?_
        refine DA.q (v := u8 (2 ^ (k % 8))) rfl rfl (SV.shl rfl rfl (by omega) (by rw [u8_shl1 (by omega) (by omega), em]) eqq) ?_
        refine DA.q (v := u8 ((clrB cur k).getD (k / 8) 0 ||| 2 ^ (k % 8))) rfl rfl (SV.bor rfl rfl (u8_or _ _ rfl rfl hx hy) eqq) ?_
        refine go ?_
        refine DA.v rfl rfl rfl ?_
        refine SV.storeO (k / 8) (xs' := (addB (clrB cur k) k).map u8) rfl tk (by omega) rfl rfl (by simp; omega) (map_set_u8 _ _ _) ?_
        refine go ?_
        refine ⟨(k + 1, addB (clrB cur k) k), ⟨rfl, trivial⟩, rfl, ⟨by dsimp only; omega, by dsimp only; omega, by dsimp only; omega, ?_, okB_add hc k, fun j => ?_⟩, by dsimp only; omega, Ent.app ent⟩
        · dsimp only; rw [addB, List.length_set, hcl, h4]
        · dsimp only
          rw [bitB_add (by omega), bitB_clr (by omega), h6]
          by_cases e1 : j = k
          · rw [if_pos (c := F ≤ j ∧ j < k + 1) (by omega)]; simp [e1]
          · by_cases e2 : F ≤ j ∧ j < k
            · rw [if_pos e2, if_pos (by omega)]; simp
            · rw [if_neg e2, if_neg (by omega)]; simp [e1]
      · subst e
        refine go ?_
        refine ⟨(k + 1, clrB cur k), ⟨rfl, trivial⟩, rfl, ⟨by dsimp only; omega, by dsimp only; omega, by dsimp only; omega, by dsimp only; omega, hc, fun j => ?_⟩, by dsimp only; omega, Ent.app ent⟩
        dsimp only
        rw [bitB_clr (by omega), h6]
        by_cases e1 : j = k
        · rw [if_pos (c := F ≤ j ∧ j < k + 1) (by omega)]; simp [e1]
        · by_cases e2 : F ≤ j ∧ j < k
          · rw [if_pos e2, if_pos (by omega)]; simp
          · rw [if_neg e2, if_neg (by omega)]; simp [e1]
    · intro hm2
      refine go ?_
      have hd := done (.inr (by omega))
      refine ⟨rfl, [_], ⟨Res.cell rfl le0 nl, trivial⟩, OB a' c' cur :: L, ?_, a', c', cur, hd, ?_, by rw [h4]; exact ha', rfl⟩
      · simp only [OB, h4]; exact ent
      · simp only [BV, h4]; rfl
  · intro hk
    refine go ?_
    have hd := done (.inl (by omega))
    refine ⟨rfl, [_], ⟨Res.cell rfl le0 nl, trivial⟩, OB a' c' cur :: L, ?_, a', c', cur, hd, ?_, by rw [h4]; exact ha', rfl⟩
    · simp only [OB, h4]; exact ent
    · simp only [BV, h4]; rfl
end Go.SL
