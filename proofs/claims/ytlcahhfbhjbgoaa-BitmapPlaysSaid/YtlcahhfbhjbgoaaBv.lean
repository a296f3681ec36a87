/- Layer 11: the law BitmapPlays, walked. -/
import Derived.Test.YtlcahhfbhjbgoaaBu
import Derived.Test.YtlcahhfbhjbgoaaBr
import Derived.Test.YtlcahhfbhjbgoaaBs
import Derived.Test.YtlcahhfbhjbgoaaSlE
namespace Go.SL
open Go.Proofs
set_option linter.unusedVariables false
set_option maxRecDepth 10000
set_option maxHeartbeats 4000000
attribute [local irreducible] W WO SV OW SW Tri Ent Tk Has Src SrcK DA DB RdS Own

structure ActB where
  f : Int
  m : Int
  u : Bool
def actV (x : ActB) : List Value := [.int .i64 x.f, .int .i64 x.m, .bool x.u]
theorem sumPop_zero (m : Nat) : sumPop (List.replicate m 0) = 0 := by
  induction m with
  | zero => rfl
  | succ m ih => rw [List.replicate_succ, sumPop, List.map_cons, List.sum_cons]; rw [sumPop] at ih; rw [ih]; decide
theorem cnt_more {p : Nat → Bool} {n : Nat} (h : ∀ k, n ≤ k → p k = false) : ∀ m, cnt p (n + m) = cnt p n
  | 0 => rfl
  | m + 1 => by rw [show n + (m + 1) = n + m + 1 from rfl, cnt, cnt_more h m, h (n + m) (by omega)]; rfl
theorem cnt_le (p : Nat → Bool) : ∀ n, cnt p n ≤ n
  | 0 => Nat.le_refl _
  | n + 1 => by rw [cnt]; have := cnt_le p n; split <;> omega
theorem used_us {bs : List Nat} {us : List Bool} (h : ∀ k, bitB bs k = us.getD k false) (hl : us.length ≤ 8 * bs.length) : sumPop bs = cnt (fun k => us.getD k false) us.length := by
  rw [used_cnt, cnt_congr _ (fun k _ => h k)]
  obtain ⟨m, e⟩ : ∃ m, 8 * bs.length = us.length + m := ⟨8 * bs.length - us.length, by omega⟩
  rw [e]
  exact cnt_more (fun k hk => by rw [List.getD_eq_getElem?_getD, List.getElem?_eq_none hk]; rfl) m
theorem getD_range {g : Nat → Bool} {n k : Nat} : ((List.range n).map g).getD k false = (decide (k < n) && g k) := by
  by_cases h : k < n
  · simp [h]
  · simp [h]
theorem getD_set {us : List Bool} {k j : Nat} {u : Bool} (hk : k < us.length) : (us.set k u).getD j false = if j = k then u else us.getD j false := by
  simp only [List.getD_eq_getElem?_getD, List.getElem?_set]
  by_cases h : k = j
  · subst h; simp [hk]
  · have h' : ¬ j = k := fun e => h e.symm
    simp [h, h']
/-- Of use, the first k are as said. -/
def Upd (us us' : List Bool) (p : Nat → Prop) (u : Bool) (k : Nat) : Prop := us'.length = us.length ∧ ∀ j, (j < k ∧ p j → us'.getD j false = u) ∧ (¬ (j < k ∧ p j) → us'.getD j false = us.getD j false)

theorem one_of (b : Bool) (p : Prop) (h : b = true ↔ p) (hp : p) : b = true := h.2 hp

theorem plays (a0 : Option Addr) (c0 : Nat) (src : List Nat) (blocks : Int) (a1 : Option Addr) (c1 : Nat) (l : List ActB) (L : List HP) (ok : OkB src) (hbl : -9223372036854775808 ≤ blocks ∧ blocks ≤ 9223372036854775807)
    (hll : l.length ≤ 9223372036854775807) (hal : ∀ x ∈ l, (-9223372036854775808 ≤ x.f ∧ x.f ≤ 9223372036854775807) ∧ (-9223372036854775808 ≤ x.m ∧ x.m ≤ 9223372036854775807)) (r0 : RdS 1 a0 src.length (src.map u8) L) (r1 : RdS 3 a1 l.length (l.flatMap actV) L) :
    TriE Try.prog 4 #[.slice a0 src.length c0, .int .i64 blocks, .slice a1 l.length c1] (fun v M => v = .bool true ∧ M = L) L := by
  refine Tri.of (N := 243) (args := [.slice a0 src.length c0, .int .i64 blocks, .slice a1 l.length c1]) Try.func4 rfl rfl rfl ?_
  refine go ?_
  refine WO.sv rfl ?_
  refine SV.gtrC rfl rfl ?_ ?_
  · intro h
    refine go ?_
    exact ⟨rfl, [_], ⟨Res.tmp rfl, trivial⟩, L, ent, rfl, rfl⟩
  intro hlen
  obtain ⟨n, hn⟩ : ∃ n, clip blocks = n := ⟨_, rfl⟩
  have hN : n ≤ 4096 := by rw [← hn]; unfold clip; omega
  have hnz : max 0 (min blocks 4096) = (n : Int) := by rw [← clip_eq, hn]
  have hOf := fun M h => bm_Of a0 c0 src blocks M (by omega) ok h
  have hNew := fun M => bm_New blocks M
  rw [hn] at hNew
  simp only [hn] at hOf
  refine go ?_
  refine WO.callE (vs := [.slice a0 src.length c0, .int .i64 blocks]) Try.func10 rfl rfl rfl rfl (hOf _ r0) ?_
  rintro v M ⟨sa, sc, bs, ls, os, hs, rfl, hsa, rfl⟩
  refine go ?_
  intro b7
  refine go ?_
  rw [hnz]
  refine WO.callE (vs := [BV sa sc bs n]) Try.func18 rfl rfl rfl rfl (bm_Len sa bs.length sc n _) ?_
  rintro v M ⟨rfl, rfl⟩
  refine go ?_
  refine WO.callE (vs := [.int .i64 blocks]) Try.func19 rfl rfl rfl rfl (hNew _) ?_
  rintro v M ⟨na, nc, rfl, hna, rfl⟩
  refine go ?_
  refine WO.callE (vs := [BV na nc (List.replicate ((n + 7) / 8) 0) n]) Try.func18 rfl rfl rfl rfl (bm_Len na _ nc n _) ?_
  rintro v M ⟨rfl, rfl⟩
  refine go ?_
  have okz : OkB (List.replicate ((n + 7) / 8) 0) := by intro x hx; rw [List.mem_replicate] at hx; omega
  refine WO.callE (vs := [.int .i64 blocks]) Try.func19 rfl rfl rfl rfl (hNew _) ?_
  rintro v M ⟨pa, pc, rfl, hpa, rfl⟩
  refine go ?_
  refine WO.callE (vs := [BV pa pc (List.replicate ((n + 7) / 8) 0) n]) Try.func17 rfl rfl rfl rfl (bm_Used pa pc _ n _ (by simp; omega) okz (OB.rd tk hpa)) ?_
  rintro v M ⟨rfl, rfl⟩
  rw [sumPop_zero]
  refine go ?_
  refine WO.sv rfl ?_
  refine SV.gtrC rfl rfl ?_ ?_
  · intro h6
    refine go ?_
    refine WO.callE (vs := [BV sa sc bs n]) Try.func18 rfl rfl rfl rfl (bm_Len sa bs.length sc n _) ?_
    rintro v M ⟨rfl, rfl⟩
    refine go ?_
    refine WO.callE (vs := [.int .i64 blocks]) Try.func19 rfl rfl rfl rfl (hNew _) ?_
    rintro v M ⟨qa, qc, rfl, hqa, rfl⟩
    refine go ?_
    refine WO.callE (vs := [BV qa qc (List.replicate ((n + 7) / 8) 0) n]) Try.func17 rfl rfl rfl rfl (bm_Used qa qc _ n _ (by simp; omega) okz (OB.rd tk hqa)) ?_
    rintro v M ⟨rfl, rfl⟩
    rw [sumPop_zero]
    refine go ?_
    refine WO.callE (vs := []) Try.func13 rfl rfl rfl rfl (bm_one _) ?_
    rintro v M ⟨rfl, rfl⟩
    refine go ?_
    exact ⟨rfl, [_], ⟨Res.tmp rfl, trivial⟩, L, Ent.drop (Ent.drop (Ent.drop (Ent.drop (Ent.drop (Ent.refl L))))), rfl, rfl⟩
  intro h6
  refine go ?_
  refine W.abs [(0, .slice a0 src.length c0), (1, .int .i64 blocks), (2, .slice a1 l.length c1), (7, .pointer (some ⟨b7, 0, none⟩)), (8, .int .i64 n), (9, .slice none 0 0), (10, .int .i64 0)] ⟨rfl, rfl, rfl, rfl, rfl, rfl, rfl, trivial⟩ ?_
  intro bg0
  refine W.loopS 37769708490920306935296 rfl (fun s : Nat × Option Addr × Nat => [(9, .slice s.2.1 s.1 s.2.2), (10, .int .i64 s.1)])
    (fun s => Own 4 1 (.slice s.2.1 s.1 s.2.2) s.1 (((List.range s.1).map (bitB src)).map Value.bool) :: pts b7 (.cells [Value.slice sa bs.length sc, .int .i64 n].toArray 24) :: OB sa sc bs :: L)
    (fun s => s.1 ≤ n ∧ (s.1 ≠ 0 → ∃ b, s.2.1 = some ⟨b, 0, none⟩)) (fun s => n - s.1) (0, none, 0) ⟨rfl, rfl, trivial⟩ ⟨Nat.zero_le _, fun h => absurd rfl h⟩ ?_ ?_
  · intro Fr h x
    exact own_nil (Ent.app (M := pts b7 (.cells [Value.slice sa bs.length sc, .int .i64 n].toArray 24) :: OB sa sc bs :: L) ent Fr h x)
  rintro ⟨i, ua, uc⟩ bg1 ⟨hi, hua⟩
  dsimp only at hi hua ⊢
  refine go ?_
  refine WO.sv rfl ?_
  refine SV.lssC rfl rfl ?_ ?_
  · intro hin
    refine go ?_
    refine WO.callE (vs := [.slice a0 src.length c0, .int .i64 n, .int .i64 i]) Try.func20 rfl rfl rfl rfl (rf_Has a0 c0 src n i _ (by omega) ok (by omega) (by omega) rds) ?_
    rintro v M ⟨rfl, rfl⟩
    have hv : (decide (0 ≤ (i : Int)) && (decide ((i : Int) < n) && bitB src (i : Int).toNat)) = bitB src i := by
      rw [decide_eq_true (by omega), decide_eq_true hin, Bool.true_and, Bool.true_and, Int.toNat_natCast]
    rw [hv]
    refine WO.sv rfl ?_
    refine SV.lit rfl rfl rfl parts rfl nl ?_
    intro bl
    refine WO.sv rfl ?_
    refine SV.append rfl rfl rfl (Tk.there Tk.here) (RdS.src (RdS.all (sz := 1) (n := 1) rfl)) rfl rfl (by omega) rfl ?_
    intro ua' uc' hua'
    refine go ?_
    refine ⟨(i + 1, ua', uc'), ⟨rfl, rfl, trivial⟩, rfl, ⟨by dsimp only; omega, fun _ => hua' (by omega)⟩, by dsimp only; omega, Ent.app ?_⟩
    have e : ((List.range (i + 1)).map (bitB src)).map Value.bool = ((List.range i).map (bitB src)).map Value.bool ++ [Value.bool (bitB src i)] := by
      rw [List.range_succ]; simp
    dsimp only
    rw [e]
    exact ent
  intro hin
  obtain rfl : i = n := by omega
  refine go ?_
  obtain ⟨us, hus⟩ : ∃ us, (List.range i).map (bitB src) = us := ⟨_, rfl⟩
  have hul : us.length = i := by rw [← hus]; simp
  have hub : ∀ k, bitB bs k = us.getD k false := by intro k; rw [hs, ← hus, getD_range]
  rw [hus]
  clear hus hs
  refine W.loopS 24519928653854221733733552434404909158967962997775988800 rfl (fun s : Nat × Option Addr × Nat × List Nat × List Bool => [(11, .int .i64 s.1)])
    (fun s => Own 4 1 (.slice ua i uc) i (s.2.2.2.2.map Value.bool) :: pts b7 (.cells [Value.slice s.2.1 s.2.2.2.1.length s.2.2.1, .int .i64 i].toArray 24) :: OB s.2.1 s.2.2.1 s.2.2.2.1 :: L)
    (fun s => s.1 ≤ l.length ∧ s.2.2.2.1.length = (i + 7) / 8 ∧ OkB s.2.2.2.1 ∧ SomeA s.2.1 s.2.2.2.1.length ∧ s.2.2.2.2.length = i ∧ ∀ k, bitB s.2.2.2.1 k = s.2.2.2.2.getD k false) (fun s => l.length - s.1) (0, sa, sc, bs, us) ⟨rfl, trivial⟩ ⟨Nat.zero_le _, ls, os, hsa, hul, hub⟩ (Ent.app ent) ?_
  rintro ⟨t, sa, sc, bs, us⟩ bg2 ⟨ht, ls, os, hsa, hul, hub⟩
  dsimp only at ht ls os hsa hul hub ⊢
  refine goC ?_
  refine W.cut 9633627625054076235939840 rfl (fun s : Bool => [(82, .bool s)]) (fun _ => Own 4 1 (.slice ua i uc) i (us.map Value.bool) :: pts b7 (.cells [Value.slice sa bs.length sc, .int .i64 i].toArray 24) :: OB sa sc bs :: L) (fun s => s = true → t < l.length) ?_ ?_
  · by_cases h1 : t < l.length
    · by_cases h2 : t < 30
      · refine go ?_
        exact ⟨true, ⟨rfl, trivial⟩, rfl, fun _ => h1, ent⟩
      · refine go ?_
        exact ⟨false, ⟨rfl, trivial⟩, rfl, fun h => (by cases h), ent⟩
    · refine go ?_
      exact ⟨false, ⟨rfl, trivial⟩, rfl, fun h => (by cases h), ent⟩
  rintro b82 bgb hb82
  refine goC ?_
  refine W.cond rfl (fun e => ?_) (fun e => ?_)
  · -- a step
    subst e
    have h1 := hb82 rfl
    obtain ⟨ab, ao, rfl⟩ := r1.at (by omega)
    have hsub := flat_sub (g := actV) (n := 3) (fun _ => rfl) l t h1
    have hbx := hal _ (List.getElem_mem h1)
    obtain ⟨⟨xf, xm, xu⟩, hx⟩ : ∃ x, l[t] = x := ⟨_, rfl⟩
    rw [hx] at hsub hbx
    dsimp only at hbx
    refine go ?_
    refine WO.sv rfl ?_
    refine SV.loadRN (t * 3) rfl rds (by simp) (by decide) (by rw [flat_len (n := 3) (fun _ => rfl)]; omega) hsub ?_
    refine go ?_
    intro b12
    refine go ?_
    refine WO.callE (vs := [BV sa sc bs i]) Try.func12 rfl rfl rfl rfl (bm_Bytes sa sc bs i _ (by omega) (RdS.cons (OB.rd tk hsa))) ?_
    rintro v M ⟨a3, c3, rfl, h3, rfl⟩
    refine WO.sv rfl ?_
    refine SV.toStrB (a := a3) (c := c3) (bs := bs) rfl os tk ?_
    refine go ?_
    refine WO.callE (vs := [BV sa sc bs i, .int .i64 xf, .int .i64 xm]) Try.func14 rfl rfl rfl rfl (bm_With sa sc bs i xf xm _ (by omega) (by omega) os (OB.rd tk hsa) hbx.1 hbx.2) ?_
    rintro v M ⟨ta, tc, bt, hrt, rfl, hta, rfl⟩
    refine go ?_
    intro b14
    refine go ?_
    refine W.cut 159723975628756904588584603877376 rfl (fun s : Option Addr × Nat × List Nat => []) (fun s => pts b14 (.cells [Value.slice s.1 s.2.2.length s.2.1, .int .i64 i].toArray 24) :: OB s.1 s.2.1 s.2.2 :: pts b12 (.cells [Value.int .i64 xf, .int .i64 xm, .bool xu].toArray 37) :: Own 4 1 (.slice ua i uc) i (us.map Value.bool) :: pts b7 (.cells [Value.slice sa bs.length sc, .int .i64 i].toArray 24) :: OB sa sc bs :: L)
      (fun s => Run2 bs s.2.2 (inRun i xf xm) xu ∧ SomeA s.1 s.2.2.length) ?_ ?_
    · refine W.cond rfl (fun e => ?_) (fun e => ?_)
      · cases xu with
        | true => cases e
        | false =>
          refine go ?_
          refine WO.callE (vs := [BV sa sc bs i, .int .i64 xf, .int .i64 xm]) Try.func16 rfl rfl rfl rfl (bm_Without sa sc bs i xf xm _ (by omega) (by omega) os (OB.rd tk hsa) hbx.1 hbx.2) ?_
          rintro v M ⟨wa, wc, bw, hrw, rfl, hwa, rfl⟩
          refine go ?_
          exact ⟨(wa, wc, bw), trivial, rfl, ⟨hrw, hwa⟩, ent⟩
      · cases xu with
        | false => cases e
        | true =>
          refine go ?_
          exact ⟨(ta, tc, bt), trivial, rfl, ⟨hrt, hta⟩, ent⟩
    clear hrt hta
    rintro ⟨ta, tc, bt⟩ bg3 ⟨⟨lt, ot, hbt⟩, hta⟩
    dsimp only at lt ot hbt hta ⊢
    refine go ?_
    refine WO.callE (vs := [BV sa sc bs i]) Try.func12 rfl rfl rfl rfl (bm_Bytes sa sc bs i _ (by omega) (OB.rd tk hsa)) ?_
    rintro v M ⟨a4, c4, rfl, h4, rfl⟩
    refine WO.sv rfl ?_
    refine SV.toStrB (a := a4) (c := c4) (bs := bs) rfl os tk ?_
    refine go ?_
    refine WO.sv rfl ?_
    refine SV.neqSF rfl rfl rfl ?_
    refine go ?_
    refine W.loopS 1461501637330892533609967763061025958663274135552 rfl (fun s : Nat × List Bool => [(15, .int .i64 s.1)])
      (fun s => pts b12 (.cells [Value.int .i64 xf, .int .i64 xm, .bool xu].toArray 37) :: Own 4 1 (.slice ua i uc) i (s.2.map Value.bool) :: pts b7 (.cells [Value.slice ta bt.length tc, .int .i64 i].toArray 24) :: pts b14 (.cells [Value.slice ta bt.length tc, .int .i64 i].toArray 24) :: OB ta tc bt :: L)
      (fun s => s.1 ≤ i ∧ Upd us s.2 (inRun i xf xm) xu s.1) (fun s => i - s.1) (0, us) ⟨rfl, trivial⟩ ⟨Nat.zero_le _, rfl, fun j => ⟨fun h => absurd h.1 (Nat.not_lt_zero _), fun _ => rfl⟩⟩ (Ent.app ent) ?_
    rintro ⟨k, us'⟩ bg4 ⟨hk, hul', hup⟩
    dsimp only at hk hul' hup ⊢
    refine go ?_
    refine WO.sv rfl ?_
    refine SV.lssC rfl rfl ?_ ?_
    · intro hki
      have hki : k < i := by omega
      by_cases hp : inRun i xf xm k
      · have hnext : Upd us (us'.set k xu) (inRun i xf xm) xu (k + 1) := by
          refine ⟨by rw [List.length_set, hul'], fun j => ⟨fun hj => ?_, fun hj => ?_⟩⟩
          · rw [getD_set (by omega)]
            by_cases e : j = k
            · rw [if_pos e]
            · rw [if_neg e]; exact (hup j).1 ⟨by omega, hj.2⟩
          · rw [getD_set (by omega)]
            by_cases e : j = k
            · subst e; exact absurd ⟨by omega, hp⟩ hj
            · rw [if_neg e]; exact (hup j).2 fun h => hj ⟨by omega, h.2⟩
        obtain ⟨ub, rfl⟩ := hua (by omega)
        obtain ⟨p1, p2, p3, p4⟩ := hp
        by_cases hneg : xf < 0
        · have q1 := p3 hneg
          refine go ?_
          refine WO.sv rfl ?_
          refine SV.storeO k (v := .bool xu) (xs' := (us'.set k xu).map Value.bool) rfl tk (by omega) rfl rfl (by simp; omega) (by rw [List.map_set]) ?_
          refine go ?_
          exact ⟨(k + 1, us'.set k xu), ⟨rfl, trivial⟩, rfl, ⟨by dsimp only; omega, hnext⟩, by dsimp only; omega, Ent.app ent⟩
        · have q1 := p4 (by omega)
          refine go ?_
          refine WO.sv rfl ?_
          refine SV.storeO k (v := .bool xu) (xs' := (us'.set k xu).map Value.bool) rfl tk (by omega) rfl rfl (by simp; omega) (by rw [List.map_set]) ?_
          refine go ?_
          exact ⟨(k + 1, us'.set k xu), ⟨rfl, trivial⟩, rfl, ⟨by dsimp only; omega, hnext⟩, by dsimp only; omega, Ent.app ent⟩
      · have hnext : Upd us us' (inRun i xf xm) xu (k + 1) := by
          refine ⟨hul', fun j => ⟨fun hj => ?_, fun hj => ?_⟩⟩
          · by_cases e : j = k
            · subst e; exact absurd hj.2 hp
            · exact (hup j).1 ⟨by omega, hj.2⟩
          · exact (hup j).2 fun h => hj ⟨by omega, h.2⟩
        have hfin : k < xf ∨ (xf ≤ k ∧ xm ≤ 0) ∨ (xf ≤ k ∧ 0 < xm ∧ xf < 0 ∧ xm + xf ≤ k) ∨ (xf ≤ k ∧ 0 < xm ∧ 0 ≤ xf ∧ xm ≤ k - xf) := by
          unfold inRun at hp; omega
        rcases hfin with q | q | q | q
        · refine go ?_
          exact ⟨(k + 1, us'), ⟨rfl, trivial⟩, rfl, ⟨by dsimp only; omega, hnext⟩, by dsimp only; omega, Ent.app ent⟩
        · refine go ?_
          exact ⟨(k + 1, us'), ⟨rfl, trivial⟩, rfl, ⟨by dsimp only; omega, hnext⟩, by dsimp only; omega, Ent.app ent⟩
        · refine go ?_
          exact ⟨(k + 1, us'), ⟨rfl, trivial⟩, rfl, ⟨by dsimp only; omega, hnext⟩, by dsimp only; omega, Ent.app ent⟩
        · refine go ?_
          exact ⟨(k + 1, us'), ⟨rfl, trivial⟩, rfl, ⟨by dsimp only; omega, hnext⟩, by dsimp only; omega, Ent.app ent⟩
    intro hki
    obtain rfl : k = i := by omega
    have hub' : ∀ j, bitB bt j = us'.getD j false := by
      intro j
      by_cases hp : inRun k xf xm j
      · rw [(hbt j).1 hp, (hup j).1 ⟨hp.1, hp⟩]
      · rw [(hbt j).2 hp, (hup j).2 fun h => hp h.2, hub]
    have hua' : RdS 1 ua us'.length (us'.map Value.bool) (Own 4 1 (.slice ua k uc) k (us'.map Value.bool) :: L) := by
      rw [hul', hul]; exact RdS.own Tk.here hua (by simp; omega)
    obtain ⟨m0, hm0, em⟩ := i64_mask xm 7 (by decide)
    refine goC ?_
    refine W.abs [(7, .pointer (some ⟨b7, 0, none⟩)), (9, .slice ua k uc), (11, .int .i64 t), (12, .pointer (some ⟨b12, 0, none⟩))] ⟨rfl, rfl, rfl, rfl, trivial⟩ ?_
    intro bg5
    have hRun : ∀ (M : List HP) (many : Int), (-9223372036854775808 ≤ many ∧ many ≤ 9223372036854775807) → RdS 1 ua k (us'.map Value.bool) M →
        TriE Try.prog 21 #[.slice ua k uc, .int .i64 many] (fun v M' => ∃ x, RunIs (fun k => us'.getD k false) k many x ∧ v = .int .i64 x ∧ M' = M) M := by
      intro M many h1 h2
      have e : us'.length = k := by omega
      have t := rf_Run ua uc us' many M (by omega) (by rw [e]; exact h2) h1
      rw [e] at t; exact t
    have hlu : (us'.map Value.bool).length = k * 1 := by simp; omega
    refine W.drawB #[0, 0, 2, 7, 0, 0, 32, 127, 255, 511, 1023, 1023, 3071, 7167, 15359, 32767, 1023, 1023, 132095, 394239, 918527, 2097151, 4194303, 8388607]
      [pts b7 (.cells [Value.slice ta bt.length tc, .int .i64 k].toArray 24), pts b12 (.cells [Value.int .i64 xf, .int .i64 xm, .bool xu].toArray 37)] (Own 4 1 (.slice ua k uc) k (us'.map Value.bool) :: OB ta tc bt :: L) rfl (by kernel_rfl) (by kernel_rfl) (by kernel_rfl) ent ?_
    refine go ?_
    refine DB.callE (vs := [BV ta tc bt k, .int .i64 xm]) Try.func11 rfl rfl rfl rfl hl hl (bm_Run ta tc bt k xm _ (by omega) (by omega) ot (OB.rd tk hta) hbx.2) ?_
    rintro v M ⟨x1, hx1, rfl, rfl⟩
    refine ⟨[], Own 4 1 (.slice ua k uc) k (us'.map Value.bool) :: OB ta tc bt :: L, ent, ?_⟩
    refine go ?_
    refine DB.callE (vs := [.slice ua k uc, .int .i64 xm]) Try.func21 rfl rfl rfl rfl hl hl (hRun _ xm hbx.2 (RdS.own tk hua hlu)) ?_
    rintro v M ⟨y1, hy1, rfl, rfl⟩
    refine ⟨[], Own 4 1 (.slice ua k uc) k (us'.map Value.bool) :: OB ta tc bt :: L, ent, ?_⟩
    obtain rfl := RunIs.uniq (RunIs.congr hub' hx1) hy1
    refine go ?_
    refine DB.q (v := .int .i64 m0) rfl rfl hl (SV.band rfl rfl em eqq) ?_
    refine go ?_
    refine DB.callE (vs := [BV ta tc bt k, .int .i64 (1 + m0)]) Try.func11 rfl rfl rfl rfl hl hl (bm_Run ta tc bt k (1 + m0) _ (by omega) (by omega) ot (OB.rd tk hta) (by omega)) ?_
    rintro v M ⟨x2, hx2, rfl, rfl⟩
    refine ⟨[], Own 4 1 (.slice ua k uc) k (us'.map Value.bool) :: OB ta tc bt :: L, ent, ?_⟩
    refine go ?_
    refine DB.q (v := .int .i64 m0) rfl rfl hl (SV.band rfl rfl em eqq) ?_
    refine go ?_
    refine DB.callE (vs := [.slice ua k uc, .int .i64 (1 + m0)]) Try.func21 rfl rfl rfl rfl hl hl (hRun _ (1 + m0) (by omega) (RdS.own tk hua hlu)) ?_
    rintro v M ⟨y2, hy2, rfl, rfl⟩
    refine ⟨[], Own 4 1 (.slice ua k uc) k (us'.map Value.bool) :: OB ta tc bt :: L, ent, ?_⟩
    obtain rfl := RunIs.uniq (RunIs.congr hub' hx2) hy2
    refine go ?_
    refine ⟨Own 4 1 (.slice ua k uc) k (us'.map Value.bool) :: pts b7 (.cells [Value.slice ta bt.length tc, .int .i64 k].toArray 24) :: OB ta tc bt :: L, ent, ?_⟩
    refine go ?_
    exact ⟨(t + 1, ta, tc, bt, us'), ⟨rfl, trivial⟩, rfl, ⟨by dsimp only; omega, by dsimp only; omega, ot, hta, by dsimp only; omega, hub'⟩, by dsimp only; omega, Ent.app ent⟩
  · -- the end
    subst e
    refine go ?_
    refine WO.callE (vs := [BV sa sc bs i]) Try.func12 rfl rfl rfl rfl (bm_Bytes sa sc bs i _ (by omega) (OB.rd tk hsa)) ?_
    rintro v M ⟨xa, xc, rfl, hxa, rfl⟩
    obtain ⟨p, hp⟩ : ∃ p, (fun k => us.getD k false) = p := ⟨_, rfl⟩
    have hps : ∀ k, us.getD k false = p k := fun k => by rw [← hp]
    have hpn : ∀ k, i ≤ k → p k = false := fun k hk => by rw [← hp]; show us.getD k false = false; rw [List.getD_eq_getElem?_getD, List.getElem?_eq_none (by omega)]; rfl
    have hst : ∀ s, cnt p (s + 1 - 1) = cnt p (s - 1) + if (decide (1 ≤ s) && p (s - 1)) then 1 else 0 := by
      intro s
      cases s with
      | zero => rfl
      | succ s => rw [show s + 1 + 1 - 1 = s + 1 from rfl, cnt, show s + 1 - 1 = s from rfl, decide_eq_true (by omega), Bool.true_and]
    refine go ?_
    refine W.loopS 1684996666598835272551271556003792707364701738657186476249226018880 rfl (fun s : Nat => [(17, .int .i64 (cnt p (s - 1))), (18, .int .i64 ((s : Int) - 1))])
      (fun _ => OB xa xc bs :: Own 4 1 (.slice ua i uc) i (us.map Value.bool) :: pts b7 (.cells [Value.slice sa bs.length sc, .int .i64 i].toArray 24) :: OB sa sc bs :: L) (fun s => s ≤ i + 2) (fun s => i + 2 - s) 0 ⟨rfl, rfl, trivial⟩ (by omega) (Ent.app ent) ?_
    intro s bg6 hs
    have hc1 := cnt_le p (s - 1)
    refine go ?_
    refine WO.sv rfl ?_
    refine SV.leqC rfl rfl ?_ ?_
    · intro h1
      refine goC ?_
      refine W.cut 25707870157276151068289475582746997807147196722802453348089856 rfl (fun b : Bool => [(19, .bool b)]) (fun _ => OB xa xc bs :: Own 4 1 (.slice ua i uc) i (us.map Value.bool) :: pts b7 (.cells [Value.slice sa bs.length sc, .int .i64 i].toArray 24) :: OB sa sc bs :: L) (fun b => b = (decide (1 ≤ s) && p (s - 1))) ?_ ?_
      · by_cases h2 : s = 0
        · subst h2
          refine go ?_
          exact ⟨false, ⟨rfl, trivial⟩, rfl, rfl, ent⟩
        · by_cases h3 : s - 1 < i
          · obtain ⟨ub, rfl⟩ := hua (by omega)
            refine go ?_
            refine WO.sv rfl ?_
            refine SV.loadR (s - 1) rfl (RdS.own tk hua (by simp; omega)) (by omega) (getb (by omega)) ?_
            refine go ?_
            exact ⟨us.getD (s - 1) false, ⟨rfl, trivial⟩, rfl, by rw [hps, decide_eq_true (by omega), Bool.true_and], ent⟩
          · refine go ?_
            exact ⟨false, ⟨rfl, trivial⟩, rfl, by rw [hpn _ (by omega), Bool.and_false], ent⟩
      rintro is bg7 his
      have e1 : hasB bs i ((s : Int) - 1) = is := by
        unfold hasB
        rw [his]
        by_cases h2 : s = 0
        · subst h2; rfl
        · rw [decide_eq_true (show (0 : Int) ≤ (s : Int) - 1 by omega), decide_eq_true (show 1 ≤ s by omega), hub, hps, show ((s : Int) - 1).toNat = s - 1 by omega, Bool.true_and, Bool.true_and]
          by_cases h3 : s - 1 < i
          · rw [decide_eq_true (show (s : Int) - 1 < i by omega), Bool.true_and]
          · rw [hpn _ (by omega), Bool.and_false]
      have hss := hst s
      rw [← his] at hss
      clear his
      cases is with
      | false =>
        refine go ?_
        refine WO.callE (vs := [BV sa sc bs i, .int .i64 ((s : Int) - 1)]) Try.func15 rfl rfl rfl rfl (bm_Has sa sc bs i ((s : Int) - 1) _ (by omega) (by omega) os (OB.rd tk hsa)) ?_
        rintro v M ⟨rfl, rfl⟩
        rw [e1]
        refine go ?_
        refine WO.callE (vs := [.slice xa bs.length xc, .int .i64 i, .int .i64 ((s : Int) - 1)]) Try.func20 rfl rfl rfl rfl (rf_Has xa xc bs i ((s : Int) - 1) _ (by omega) os (by omega) (by omega) (OB.rd tk hxa)) ?_
        rintro v M ⟨rfl, rfl⟩
        unfold hasB at e1
        rw [e1]
        refine go ?_
        exact ⟨s + 1, ⟨by rw [hss]; rfl, by show Value.int .i64 _ = _; congr 1; omega, trivial⟩, rfl, by omega, by omega, fun _ _ x => x⟩
      | true =>
        refine go ?_
        refine WO.callE (vs := [BV sa sc bs i, .int .i64 ((s : Int) - 1)]) Try.func15 rfl rfl rfl rfl (bm_Has sa sc bs i ((s : Int) - 1) _ (by omega) (by omega) os (OB.rd tk hsa)) ?_
        rintro v M ⟨rfl, rfl⟩
        rw [e1]
        refine go ?_
        refine WO.callE (vs := [.slice xa bs.length xc, .int .i64 i, .int .i64 ((s : Int) - 1)]) Try.func20 rfl rfl rfl rfl (rf_Has xa xc bs i ((s : Int) - 1) _ (by omega) os (by omega) (by omega) (OB.rd tk hxa)) ?_
        rintro v M ⟨rfl, rfl⟩
        unfold hasB at e1
        rw [e1]
        refine go ?_
        exact ⟨s + 1, ⟨by rw [hss]; show Value.int .i64 _ = _; congr 1, by show Value.int .i64 _ = _; congr 1; omega, trivial⟩, rfl, by omega, by omega, fun _ _ x => x⟩
    · intro h1
      obtain rfl : s = i + 2 := by omega
      have hU : cnt p (i + 2 - 1) = sumPop bs := by
        have := used_us hub (by omega)
        rw [hp, hul] at this
        rw [this, show i + 2 - 1 = i + 1 by omega, cnt, hpn i (Nat.le_refl _)]; rfl
      rw [hU]
      have hle := sumPop_le bs
      refine go ?_
      refine WO.callE (vs := [BV sa sc bs i]) Try.func17 rfl rfl rfl rfl (bm_Used sa sc bs i _ (by omega) os (OB.rd tk hsa)) ?_
      rintro v M ⟨rfl, rfl⟩
      refine go ?_
      have hci : clip (i : Int) = i := by unfold clip; omega
      refine WO.callE (vs := [.slice xa bs.length xc, .int .i64 i]) Try.func10 rfl rfl rfl rfl (bm_Of xa xc bs i _ (by omega) os (OB.rd tk hxa)) ?_
      rintro v M ⟨ya, yc, by_, ly, oy, hy, rfl, hya, rfl⟩
      rw [hci] at ly hy ⊢
      obtain rfl : by_ = bs := by
        refine ext_bits (by omega) oy os fun k => ?_
        rw [hy, hub, hps]
        by_cases h3 : k < i
        · rw [decide_eq_true h3, Bool.true_and]
        · rw [hpn _ (by omega), Bool.and_false]
      refine go ?_
      refine WO.callE (vs := [BV ya yc by_ i]) Try.func17 rfl rfl rfl rfl (bm_Used ya yc by_ i _ (by omega) oy (OB.rd tk hya)) ?_
      rintro v M ⟨rfl, rfl⟩
      refine go ?_
      refine WO.callE (vs := []) Try.func13 rfl rfl rfl rfl (bm_one _) ?_
      rintro v M ⟨rfl, rfl⟩
      refine go ?_
      exact ⟨rfl, [_], ⟨Res.tmp rfl, trivial⟩, L, ent, rfl, rfl⟩
end Go.SL
