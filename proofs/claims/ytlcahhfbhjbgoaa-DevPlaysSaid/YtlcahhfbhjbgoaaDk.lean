/- Layer 7: the law DevKeeps, walked. -/
import Derived.Test.YtlcahhfbhjbgoaaDn
namespace Go.SL
open Go.Proofs
set_option linter.unusedVariables false
set_option maxRecDepth 10000
set_option maxHeartbeats 4000000
attribute [local irreducible] W WO SV OW SW Tri Ent Tk Has Src SrcK DA DB RdS Own

/-- No call falls. -/
structure Dv.Calm (d : Dv) : Prop where
  ok : d.Ok
  some : d.kept.length ≠ 0
  arm : d.arm = -1
  down : d.down = false
theorem Dv.call_calm {d : Dv} (h : d.Calm) : d.call true = ({ d with ops := IntKind.i64.wrap (d.ops + 1) }, 0) := by
  obtain ⟨_, h1, h2, h3⟩ := h
  obtain ⟨kept, now, waits, arm, down, ops⟩ := d
  simp only at h1 h2 h3
  subst h2; subst h3
  unfold Dv.call
  rw [if_neg h1, if_neg (by decide)]
  rfl
theorem Dv.is_of {d : Dv} {n : Int} (h : 0 ≤ n ∧ n < d.kept.length) : d.is n = true := by
  unfold Dv.is; rw [decide_eq_true h.1, decide_eq_true h.2]; rfl
theorem Dv.read_calm {d : Dv} (h : d.Calm) {n : Int} (hn : 0 ≤ n ∧ n < d.kept.length) : d.read n = ({ d with ops := IntKind.i64.wrap (d.ops + 1) }, 0) := by
  unfold Dv.read; rw [Dv.is_of hn, Dv.call_calm h]
theorem Dv.put_calm {d : Dv} (h : d.Calm) {n : Int} {s : Byt} (hn : 0 ≤ n ∧ n < d.kept.length) (hs : s.length = 256) :
    d.put n s = ({ d with ops := IntKind.i64.wrap (d.ops + 1), now := d.now.set n.toNat s, waits := d.waits ++ [(n.toNat, s)] }, 0) := by
  unfold Dv.put; rw [Dv.is_of hn, decide_eq_true hs, Bool.true_and, Dv.call_calm h, if_pos rfl]
theorem Dv.flush_calm {d : Dv} (h : d.Calm) : d.flush = ({ d with ops := IntKind.i64.wrap (d.ops + 1), kept := d.now, waits := [] }, 0) := by
  unfold Dv.flush; rw [Dv.call_calm h, if_pos rfl, h.ok.sync]
theorem Dv.Calm.ops {d : Dv} (h : d.Calm) (n : Int) : ({ d with ops := n } : Dv).Calm := ⟨⟨h.ok.now, h.ok.size, h.ok.k256, h.ok.n256, h.ok.w256, h.ok.arm, h.ok.sync⟩, h.some, h.arm, h.down⟩
theorem Dv.Calm.read {d : Dv} (h : d.Calm) {n : Int} (hn : 0 ≤ n ∧ n < d.kept.length) : (d.read n).1.Calm := by rw [Dv.read_calm h hn]; exact h.ops _
theorem Dv.Calm.put {d : Dv} (h : d.Calm) {n : Int} {s : Byt} (hn : 0 ≤ n ∧ n < d.kept.length) (hs : s.length = 256) : (d.put n s).1.Calm := by
  refine ⟨Dv.put_ok h.ok n s, ?_, ?_, ?_⟩ <;> rw [Dv.put_calm h hn hs]
  · exact h.some
  · exact h.arm
  · exact h.down
theorem Dv.Calm.flush {d : Dv} (h : d.Calm) : d.flush.1.Calm := by
  refine ⟨Dv.flush_ok h.ok, ?_, ?_, ?_⟩ <;> rw [Dv.flush_calm h]
  · show d.now.length ≠ 0; rw [h.ok.now]; exact h.some
  · exact h.arm
  · exact h.down
theorem Dv.Calm.new {n : Nat} (h : 1 ≤ n) (h' : n ≤ 4096) : (Dv.new n).Calm := ⟨Dv.new_ok h', by simp [Dv.new]; omega, rfl, rfl⟩
theorem Dv.Calm.fall {d : Dv} (ok : d.Ok) (h : d.kept.length ≠ 0) (ks : List Int) : (d.fall ks).Calm := by
  refine ⟨Dv.fall_ok ok ks, ?_, ?_, ?_⟩ <;> rw [Dv.fall, if_neg h]
  rw [fallN_len]; exact h
theorem getD_setL {l : List Byt} {k j : Nat} {u : Byt} (hk : k < l.length) : (l.set k u).getD j [] = if j = k then u else l.getD j [] := by
  simp only [List.getD_eq_getElem?_getD, List.getElem?_set]
  by_cases h : k = j
  · subst h; simp [hk]
  · have h' : ¬ j = k := fun e => h e.symm
    simp [h, h']
theorem getD_setB {l : List Bool} {k j : Nat} {u : Bool} (hk : k < l.length) : (l.set k u).getD j false = if j = k then u else l.getD j false := by
  simp only [List.getD_eq_getElem?_getD, List.getElem?_set]
  by_cases h : k = j
  · subst h; simp [hk]
  · have h' : ¬ j = k := fun e => h e.symm
    simp [h, h']
theorem rep_get (c : UInt8) {i : Nat} (h : i < 256) : ((rep c).map u8V)[i]? = some (u8V c) := by
  rw [rep, List.map_replicate, List.getElem?_replicate, if_pos h]
theorem rep_mem {c x : UInt8} (h : x ∈ rep c) : x = c := (List.mem_replicate.1 h).2
/-- Each byte behind a fall is of what was kept, or of a write. -/
theorem fall_bytes {P : Nat → UInt8 → Prop} {kept : List Byt} {waits : List (Nat × Byt)} {ks : List Int} (hk : ∀ k, ∀ c ∈ kept.getD k [], P k c) (hw : ∀ w ∈ waits, w.1 < kept.length ∧ ∀ c ∈ w.2, P w.1 c) :
    ∀ i, i ≤ waits.length → ∀ k, ∀ c ∈ (fallN kept waits ks i).getD k [], P k c
  | 0, _, k, c, h => hk k c h
  | i + 1, hi, k, c, h => by
    have ih := fall_bytes (ks := ks) hk hw i (by omega)
    have hm := hw _ (getD_mem (l := waits) (i := i) (x := (0, [])) (by omega))
    rw [fallN, getD_setL (by rw [fallN_len]; exact hm.1)] at h
    by_cases e : k = (waits.getD i (0, [])).1
    · rw [if_pos e] at h
      rw [e]
      rcases List.mem_append.1 h with q | q
      · exact hm.2 c (List.mem_of_mem_take q)
      · exact ih _ c (List.mem_of_mem_drop q)
    · rw [if_neg e] at h; exact ih k c h

structure ActD where
  kind : Int
  n : Int
  c : UInt8
  ka : Option Addr
  ks : List Int
  kc : Nat
/-- What is known of a step that came in. -/
def ActD.Okk (L : List HP) (x : ActD) : Prop := (-9223372036854775808 ≤ x.kind ∧ x.kind ≤ 9223372036854775807) ∧ (-9223372036854775808 ≤ x.n ∧ x.n ≤ 9223372036854775807) ∧ x.ks.length ≤ 9223372036854775807 ∧ RdS 1 x.ka x.ks.length (x.ks.map (Value.int .i64)) L
def actD (x : ActD) : List Value := [.int .i64 x.kind, .int .i64 x.n, u8V x.c, .slice x.ka x.ks.length x.kc]

theorem keeps (a0 : Option Addr) (c0 : Nat) (first : List UInt8) (a1 : Option Addr) (c1 : Nat) (l : List ActD) (a2 : Option Addr) (c2 : Nat) (ks : List Int) (L : List HP)
    (hb0 : first.length ≤ 9223372036854775807) (hb1 : l.length ≤ 9223372036854775807) (hb2 : ks.length ≤ 9223372036854775807)
    (r0 : RdS 1 a0 first.length (first.map u8V) L) (r1 : RdS 4 a1 l.length (l.flatMap actD) L) (r2 : RdS 1 a2 ks.length (ks.map (Value.int .i64)) L) :
    TriE Try.prog 7 #[.slice a0 first.length c0, .slice a1 l.length c1, .slice a2 ks.length c2] (fun v M => v = .bool true ∧ M = L) L := by
  refine Tri.of (N := 192) (args := [.slice a0 first.length c0, .slice a1 l.length c1, .slice a2 ks.length c2]) Try.func7 rfl rfl rfl ?_
  refine go ?_
  refine WO.callE (vs := [.int .i64 4]) Try.func35 rfl rfl rfl rfl (dv_New 4 _ (by decide) (by decide)) ?_
  rintro v M ⟨b, rfl, rfl⟩
  refine go ?_
  refine WO.sv rfl ?_
  refine SV.gtrC rfl rfl ?_ ?_
  · intro h
    refine go ?_
    exact ⟨rfl, [_], ⟨Res.tmp rfl, trivial⟩, L, ent, rfl, rfl⟩
  intro hlen
  obtain ⟨fb, hfb⟩ : ∃ fb : Nat → UInt8, fb = fun k => first.getD k 0 := ⟨_, rfl⟩
  have hfb0 : ∀ k, first.length ≤ k → fb k = 0 := fun k hk => by rw [hfb]; show first.getD k 0 = 0; rw [List.getD_eq_getElem?_getD, List.getElem?_eq_none hk]; rfl
  have hfbg : ∀ k, k < first.length → (first.map u8V)[k]? = some (u8V (fb k)) := fun k hk => by rw [hfb]; simp [hk]
  clear hfb
  refine go ?_
  refine W.loopS 9223336852482687488 rfl (fun s : Nat × Dv => [(9, .int .i64 s.1)]) (fun s => DevH b s.2 :: L)
    (fun s => s.1 ≤ 4 ∧ s.2.Calm ∧ s.2.kept.length = 4 ∧ s.2.waits.length ≤ 4 ∧ s.2.waits.length = s.1 ∧ ∀ k, k < 4 → s.2.now.getD k [] = if k < s.1 then rep (fb k) else rep 0) (fun s => 4 - s.1) (0, Dv.new 4) ⟨rfl, trivial⟩
    ⟨by decide, Dv.Calm.new (by decide) (by decide), rfl, by decide, rfl, fun k hk => by rw [if_neg (by omega)]; show (List.replicate 4 zero256).getD k [] = rep 0; rw [List.getD_eq_getElem?_getD, List.getElem?_replicate, if_pos hk]; rfl⟩ (Ent.app ent) ?_
  rintro ⟨i, d⟩ bg0 ⟨hi, hcalm, hk4, hw4, hwi, hnow⟩
  dsimp only at hi hcalm hk4 hw4 hwi hnow ⊢
  refine goC ?_
  refine W.cut 8972014882652160 rfl (fun s : Bool => [(52, .bool s)]) (fun _ => DevH b d :: L) (fun s => (s = true → i < 4 ∧ i < first.length) ∧ (s = false → 4 ≤ i ∨ first.length ≤ i)) ?_ ?_
  · by_cases h1 : i < 4
    · by_cases h2 : i < first.length
      · refine go ?_
        exact ⟨true, ⟨rfl, trivial⟩, rfl, ⟨fun _ => ⟨h1, h2⟩, fun h => by cases h⟩, ent⟩
      · refine go ?_
        exact ⟨false, ⟨rfl, trivial⟩, rfl, ⟨fun h => (by cases h), fun _ => .inr (by omega)⟩, ent⟩
    · refine go ?_
      exact ⟨false, ⟨rfl, trivial⟩, rfl, ⟨fun h => (by cases h), fun _ => .inl (by omega)⟩, ent⟩
  rintro b52 bg1 ⟨ht, hf⟩
  refine goC ?_
  refine W.cond rfl (fun e => ?_) (fun e => ?_)
  · subst e
    obtain ⟨h1, h2⟩ := ht rfl
    obtain ⟨ab, ao, rfl⟩ := r0.at (by omega)
    refine go ?_
    refine WO.sv rfl ?_
    refine SV.loadR i rfl rds (by omega) (hfbg i h2) ?_
    refine WO.callE (vs := [u8V (fb i)]) Try.func37 rfl rfl rfl rfl (l7_BlockR (fb i) _) ?_
    rintro v M ⟨a3, c3, rfl, s3, rfl⟩
    refine WO.callE (vs := [.pointer (some ⟨b, 0, none⟩), .int .i64 i, .slice a3 (rep (fb i)).length c3]) Try.func36 rfl rfl rfl rfl (TriE.ent ent (dv_Write b d i a3 c3 (rep (fb i)) (OS a3 c3 (rep (fb i)) :: L) hcalm.ok (by rw [rep_len]; decide) (by omega) (OS.rd tk s3))) ?_
    rintro v M ⟨rfl, rfl⟩
    have hpc := Dv.put_calm hcalm (n := i) (s := rep (fb i)) (by omega) (rep_len _)
    have hpC := Dv.Calm.put hcalm (n := i) (s := rep (fb i)) (by omega) (rep_len _)
    refine go ?_
    refine ⟨(i + 1, (d.put i (rep (fb i))).1), ⟨rfl, trivial⟩, rfl, ⟨by dsimp only; omega, hpC, ?_, ?_, ?_, ?_⟩, by dsimp only; omega, Ent.app ent⟩
    · dsimp only; rw [hpc]; exact hk4
    · dsimp only; rw [hpc]; simp only [List.length_append, List.length_singleton]; omega
    · dsimp only; rw [hpc]; simp only [List.length_append, List.length_singleton]; omega
    · dsimp only; rw [hpc]
      intro k hk
      rw [Int.toNat_natCast, getD_setL (by rw [hcalm.ok.now]; omega), hnow k hk]
      by_cases e : k = i
      · subst e; rw [if_pos rfl, if_pos (by omega)]
      · rw [if_neg e]
        by_cases e2 : k < i
        · rw [if_pos e2, if_pos (by omega)]
        · rw [if_neg e2, if_neg (by omega)]
  subst e
  have hend := hf rfl
  have hnow4 : ∀ k, k < 4 → d.now.getD k [] = rep (fb k) := by
    intro k hk
    rw [hnow k hk]
    by_cases h : k < i
    · rw [if_pos h]
    · rw [if_neg h, hfb0 k (by omega)]
  clear hnow ht hf hend
  refine go ?_
  refine WO.callE (vs := [.pointer (some ⟨b, 0, none⟩)]) Try.func38 rfl rfl rfl rfl (dv_Flush b d _ hcalm.ok (by omega)) ?_
  rintro v M ⟨rfl, rfl⟩
  have hfC := hcalm.flush
  have hfc := Dv.flush_calm hcalm
  obtain ⟨d1, hd1⟩ : ∃ d1, d.flush.1 = d1 := ⟨_, rfl⟩
  have f1 : d1.kept = d.now := by rw [← hd1, hfc]
  have f2 : d1.now = d.now := by rw [← hd1, hfc]
  have f3 : d1.waits = [] := by rw [← hd1, hfc]
  have hn4 : d.now.length = 4 := by rw [hcalm.ok.now, hk4]
  rw [hd1] at hfC ⊢
  refine go ?_
  refine WO.callE (vs := [.pointer (some ⟨b, 0, none⟩)]) Try.func39 rfl rfl rfl rfl (dv_Clone b d1 _ hfC.ok (by rw [f3]; decide)) ?_
  rintro v M (⟨h, _⟩ | ⟨_, b', rfl, rfl⟩)
  · exact absurd h hfC.some
  refine go ?_
  intro bm
  refine go ?_
  have hz : List.replicate 1024 (Value.bool false) = (List.replicate 1024 false).map Value.bool := by rw [List.map_replicate]
  rw [hz]
  refine W.loopS 77371104881383677504811072 rfl (fun s : Nat × Dv × List Bool => [(12, .int .i64 s.1)]) (fun s => pts bm (.cells (s.2.2.map Value.bool).toArray 71) :: DevH b' d1 :: DevH b s.2.1 :: L)
    (fun s => s.1 ≤ 4 ∧ s.2.1.Calm ∧ s.2.1.kept = d.now ∧ s.2.1.now = d.now ∧ s.2.1.waits = [] ∧ s.2.2.length = 1024 ∧ ∀ k, k < s.1 → s.2.2.getD (k * 256 + (fb k).toNat) false = true) (fun s => 4 - s.1) (0, d1, List.replicate 1024 false) ⟨rfl, trivial⟩
    ⟨Nat.zero_le _, hfC, f1, f2, f3, List.length_replicate, fun k hk => absurd hk (Nat.not_lt_zero _)⟩ (Ent.app ent) ?_
  rintro ⟨i2, d2, mm⟩ bg2 ⟨hi2, hC2, k2, n2, w2, hm2, hmm⟩
  dsimp only at hi2 hC2 k2 n2 w2 hm2 hmm ⊢
  refine go ?_
  refine WO.sv rfl ?_
  refine SV.lssC rfl rfl ?_ ?_
  · intro h1
    have hrc := Dv.read_calm hC2 (n := i2) (by rw [k2, hn4]; omega)
    have hrC := Dv.Calm.read hC2 (n := i2) (by rw [k2, hn4]; omega)
    refine go ?_
    refine WO.callE (vs := [.pointer (some ⟨b, 0, none⟩), .int .i64 i2]) Try.func40 rfl rfl rfl rfl (TriE.ent ent (dv_Read b d2 i2 (pts bm (.cells (mm.map Value.bool).toArray 71) :: DevH b' d1 :: L) hC2.ok)) ?_
    rintro v M (⟨h, _⟩ | ⟨_, a3, c3, rfl, s3, rfl⟩)
    · rw [hrc] at h; exact absurd rfl h
    have hs : d2.now.getD (i2 : Int).toNat [] = rep (fb i2) := by rw [Int.toNat_natCast, n2]; exact hnow4 i2 (by omega)
    rw [hs]
    obtain ⟨b3, rfl⟩ := s3 (by decide)
    have hlt := (fb i2).toNat_lt
    refine go ?_
    refine W.drawA rfl (by kernel_rfl) (by kernel_rfl) ?_
    refine go ?_
    refine DA.q (v := u8V (fb i2)) rfl rfl (SV.loadR 0 rfl (OS.rd tk (fun _ => ⟨b3, rfl⟩)) rfl (rep_get _ (by decide)) eqq) ?_
    refine go ?_
    refine DA.v rfl rfl rfl ?_
    refine SV.storeS (v := .bool true) rfl rfl rfl (.inl (Nat.le_refl _)) (by simp; omega) ?_
    rw [show 0 + (i2 : Int).toNat * 256 + ((fb i2).toNat : Int).toNat * 1 = i2 * 256 + (fb i2).toNat by omega, ← List.map_set]
    refine go ?_
    refine ⟨(i2 + 1, (d2.read i2).1, mm.set (i2 * 256 + (fb i2).toNat) true), ⟨rfl, trivial⟩, rfl, ⟨by dsimp only; omega, hrC, ?_, ?_, ?_, ?_, ?_⟩, by dsimp only; omega, Ent.app ent⟩
    · dsimp only; rw [hrc]; exact k2
    · dsimp only; rw [hrc]; exact n2
    · dsimp only; rw [hrc]; exact w2
    · dsimp only; rw [List.length_set]; exact hm2
    · dsimp only
      intro k hk
      rw [getD_setB (by omega)]
      by_cases e : k = i2
      · rw [e, if_pos rfl]
      · split
        · rfl
        · exact hmm k (by omega)
  intro h1
  obtain rfl : i2 = 4 := by omega
  clear h1 hi2
  refine go ?_
  refine W.loopS 1329227995707544620448470793099247680 rfl (fun s : Nat × Dv × List Bool => [(15, .int .i64 s.1)]) (fun s => pts bm (.cells (s.2.2.map Value.bool).toArray 71) :: DevH b' d1 :: DevH b s.2.1 :: L)
    (fun s => s.1 ≤ l.length ∧ s.1 ≤ 40 ∧ s.2.1.Calm ∧ s.2.1.kept = d.now ∧ s.2.1.waits.length = s.1 ∧ s.2.2.length = 1024 ∧ (∀ k, k < 4 → s.2.2.getD (k * 256 + (fb k).toNat) false = true) ∧ ∀ w ∈ s.2.1.waits, w.1 < 4 ∧ ∃ c : UInt8, w.2 = rep c ∧ s.2.2.getD (w.1 * 256 + c.toNat) false = true) (fun s => l.length - s.1) (0, d2, mm) ⟨rfl, trivial⟩
    ⟨by omega, Nat.zero_le _, hC2, k2, by rw [w2]; rfl, hm2, hmm, fun w hw => by rw [w2] at hw; cases hw⟩ (Ent.app (Ent.refl _)) ?_
  clear hC2 k2 n2 w2 hm2 hmm
  rintro ⟨t, d2, mm⟩ bg3 ⟨ht1, ht2, hC2, k2, w2, hm2, hmm, hww⟩
  dsimp only at ht1 ht2 hC2 k2 w2 hm2 hmm hww ⊢
  have hk24 : d2.kept.length = 4 := by rw [k2, hn4]
  refine goC ?_
  refine W.cut 19729669376110748131204792320 rfl (fun s : Bool => [(93, .bool s)]) (fun _ => pts bm (.cells (mm.map Value.bool).toArray 71) :: DevH b' d1 :: DevH b d2 :: L) (fun s => s = true → t < l.length ∧ t < 40) ?_ ?_
  · by_cases h1 : t < l.length
    · by_cases h2 : t < 40
      · refine go ?_
        exact ⟨true, ⟨rfl, trivial⟩, rfl, fun _ => ⟨h1, h2⟩, ent⟩
      · refine go ?_
        exact ⟨false, ⟨rfl, trivial⟩, rfl, fun h => (by cases h), ent⟩
    · refine go ?_
      exact ⟨false, ⟨rfl, trivial⟩, rfl, fun h => (by cases h), ent⟩
  rintro b93 bg4 hb93
  refine goC ?_
  refine W.cond rfl (fun e => ?_) (fun e => ?_)
  · subst e
    obtain ⟨h1, h2⟩ := hb93 rfl
    obtain ⟨ab, ao, rfl⟩ := r1.at (by omega)
    have g1 := flat_get (g := actD) (n := 4) (fun _ => rfl) l t 1 h1 (by decide)
    have g2 := flat_get (g := actD) (n := 4) (fun _ => rfl) l t 2 h1 (by decide)
    generalize l[t] = x at g1 g2
    obtain ⟨kind, xn, xc, xka, xks, xkc⟩ := x
    obtain ⟨n, hn, en⟩ := i64_mask xn 3 (by decide)
    have hlt := xc.toNat_lt
    refine go ?_
    refine WO.sv rfl ?_
    refine SV.loadR (v := .int .i64 xn) (t * 4 + 1) rfl rds (by omega) g1 ?_
    refine WO.sv rfl ?_
    refine SV.band rfl rfl en ?_
    refine go ?_
    refine WO.sv rfl ?_
    refine SV.loadR (v := u8V xc) (t * 4 + 2) rfl rds (by omega) g2 ?_
    refine WO.callE (vs := [u8V xc]) Try.func37 rfl rfl rfl rfl (l7_BlockR xc _) ?_
    rintro v M ⟨a3, c3, rfl, s3, rfl⟩
    have hpc := Dv.put_calm hC2 (n := n) (s := rep xc) (by omega) (rep_len _)
    have hpC := Dv.Calm.put hC2 (n := n) (s := rep xc) (by omega) (rep_len _)
    refine WO.callE (vs := [.pointer (some ⟨b, 0, none⟩), .int .i64 n, .slice a3 (rep xc).length c3]) Try.func36 rfl rfl rfl rfl (TriE.ent ent (dv_Write b d2 n a3 c3 (rep xc) (OS a3 c3 (rep xc) :: pts bm (.cells (mm.map Value.bool).toArray 71) :: DevH b' d1 :: L) hC2.ok (by rw [rep_len]; decide) (by omega) (OS.rd tk s3))) ?_
    rintro v M ⟨rfl, rfl⟩
    rw [show (d2.put n (rep xc)).2 = 0 by rw [hpc]]
    refine go ?_
    refine W.drawA rfl (by kernel_rfl) (by kernel_rfl) ?_
    refine go ?_
    refine DA.q (v := u8V xc) rfl rfl (SV.loadR (t * 4 + 2) rfl rds (by omega) g2 eqq) ?_
    refine go ?_
    refine DA.v rfl rfl rfl ?_
    refine SV.storeS (v := .bool true) rfl rfl rfl (.inl (Nat.le_refl _)) (by simp; omega) ?_
    rw [show 0 + (n : Int).toNat * 256 + (xc.toNat : Int).toNat * 1 = n * 256 + xc.toNat by omega, ← List.map_set]
    refine go ?_
    refine ⟨(t + 1, (d2.put n (rep xc)).1, mm.set (n * 256 + xc.toNat) true), ⟨rfl, trivial⟩, rfl, ⟨by dsimp only; omega, by dsimp only; omega, hpC, ?_, ?_, ?_, ?_, ?_⟩, by dsimp only; omega, Ent.app ent⟩
    · dsimp only; rw [hpc]; exact k2
    · dsimp only; rw [hpc]; simp only [List.length_append, List.length_singleton, w2]
    · dsimp only; rw [List.length_set]; exact hm2
    · dsimp only
      intro k hk
      rw [getD_setB (by omega)]
      split
      · rfl
      · exact hmm k hk
    · dsimp only
      intro w hw
      rw [hpc] at hw
      rcases List.mem_append.1 hw with q | q
      · obtain ⟨q1, c, q2, q3⟩ := hww w q
        refine ⟨q1, c, q2, ?_⟩
        rw [getD_setB (by omega)]
        split
        · rfl
        · exact q3
      · rw [List.mem_singleton] at q
        subst q
        refine ⟨by dsimp only; omega, xc, rfl, ?_⟩
        dsimp only
        rw [Int.toNat_natCast, getD_setB (by omega), if_pos rfl]
  subst e
  clear hb93 ht1
  refine go ?_
  refine WO.callE (vs := [.pointer (some ⟨b, 0, none⟩), .slice a2 ks.length c2]) Try.func41 rfl rfl rfl rfl (TriE.ent ent (dv_Fall b d2 a2 c2 ks (pts bm (.cells (mm.map Value.bool).toArray 71) :: DevH b' d1 :: L) hC2.ok (by omega) hb2 rds)) ?_
  rintro v M rfl
  have hC5 := Dv.Calm.fall hC2.ok hC2.some ks
  have hby : ∀ k, k < 4 → ∀ c ∈ (d2.fall ks).now.getD k [], mm.getD (k * 256 + c.toNat) false = true := by
    intro k hk
    rw [Dv.fall, if_neg hC2.some]
    refine fun c hc => fall_bytes (P := fun k c => k < 4 → mm.getD (k * 256 + c.toNat) false = true) ?_ ?_ _ (Nat.le_refl _) k c hc hk
    · intro k c hc hk
      rw [k2, hnow4 k hk] at hc
      rw [rep_mem hc]; exact hmm k hk
    · intro w hw
      obtain ⟨q1, c, q2, q3⟩ := hww w hw
      refine ⟨by omega, fun x hx _ => ?_⟩
      rw [q2] at hx
      rw [rep_mem hx]; exact q3
  have hk5 : (d2.fall ks).kept.length = 4 := by rw [Dv.fall, if_neg hC2.some]; simp only [fallN_len]; exact hk24
  have hw5 : (d2.fall ks).waits = [] := by rw [Dv.fall, if_neg hC2.some]
  clear hww w2 hmm k2 hk24
  generalize d2.fall ks = d5 at hC5 hby hk5 hw5 ⊢
  refine go ?_
  refine WO.callE (vs := [.pointer (some ⟨b, 0, none⟩)]) Try.func42 rfl rfl rfl rfl (dv_Waiting b d5 _) ?_
  rintro v M ⟨rfl, rfl⟩
  rw [if_neg hC5.some, hw5, show ((([] : List (Nat × Byt)).length : Nat) : Int) = 0 from rfl]
  refine go ?_
  refine WO.callE (vs := [.pointer (some ⟨b, 0, none⟩)]) Try.func43 rfl rfl rfl rfl (dv_Down b d5 _) ?_
  rintro v M ⟨rfl, rfl⟩
  rw [hC5.down, Bool.and_false]
  refine go ?_
  have hD1 : d1.kept.length = 4 := by rw [f1, hn4]
  have hE1 : ∀ k, k < 4 → d1.now.getD k [] = rep (fb k) := by rw [f2]; exact hnow4
  clear f1 f2 f3 hw5
  refine W.loopS 3138550867693340380556765243920079354197679292504961056832 rfl (fun s : Nat × Dv × Dv => [(17, .int .i64 s.1)]) (fun s => DevH b s.2.1 :: DevH b' s.2.2 :: pts bm (.cells (mm.map Value.bool).toArray 71) :: L)
    (fun s => s.1 ≤ 4 ∧ s.2.1.Calm ∧ s.2.1.kept.length = 4 ∧ s.2.1.now = d5.now ∧ s.2.2.Calm ∧ s.2.2.kept.length = 4 ∧ s.2.2.now = d1.now) (fun s => 4 - s.1) (0, d5, d1) ⟨rfl, trivial⟩ ⟨Nat.zero_le _, hC5, hk5, rfl, hfC, hD1, rfl⟩ (Ent.app ent) ?_
  rintro ⟨i6, e5, e1⟩ bg6 ⟨hi6, hC6, hk6, hn6, hC7, hk7, hn7⟩
  dsimp only at hi6 hC6 hk6 hn6 hC7 hk7 hn7 ⊢
  refine go ?_
  refine WO.sv rfl ?_
  refine SV.lssC rfl rfl ?_ ?_
  · intro h1
    have hi6' : i6 < 4 := by omega
    have hrc := Dv.read_calm hC6 (n := i6) (by rw [hk6]; omega)
    have hrC := Dv.Calm.read hC6 (n := i6) (by rw [hk6]; omega)
    have hqc := Dv.read_calm hC7 (n := i6) (by rw [hk7]; omega)
    have hqC := Dv.Calm.read hC7 (n := i6) (by rw [hk7]; omega)
    refine go ?_
    refine WO.callE (vs := [.pointer (some ⟨b, 0, none⟩), .int .i64 i6]) Try.func40 rfl rfl rfl rfl (dv_Read b e5 i6 _ hC6.ok) ?_
    rintro v M (⟨h, _⟩ | ⟨_, a3, c3, rfl, s3, rfl⟩)
    · rw [hrc] at h; exact absurd rfl h
    have hbs : ∀ c ∈ e5.now.getD (i6 : Int).toNat [], mm.getD (i6 * 256 + c.toNat) false = true := by rw [Int.toNat_natCast, hn6]; exact hby i6 hi6'
    have hbl : (e5.now.getD (i6 : Int).toNat []).length = 256 := mem256 hC6.ok.n256 (by rw [hC6.ok.now]; omega)
    generalize e5.now.getD (i6 : Int).toNat [] = bs at hbs hbl ⊢
    refine go ?_
    refine WO.callE (vs := [.pointer (some ⟨b', 0, none⟩), .int .i64 i6]) Try.func40 rfl rfl rfl rfl (TriE.ent ent (dv_Read b' e1 i6 (OS a3 c3 bs :: DevH b (e5.read i6).1 :: pts bm (.cells (mm.map Value.bool).toArray 71) :: L) hC7.ok)) ?_
    rintro v M (⟨h, _⟩ | ⟨_, a4, c4, rfl, s4, rfl⟩)
    · rw [hqc] at h; exact absurd rfl h
    have hs : e1.now.getD (i6 : Int).toNat [] = rep (fb i6) := by rw [Int.toNat_natCast, hn7]; exact hE1 i6 hi6'
    rw [hs]
    obtain ⟨b3, rfl⟩ := s3 (by decide)
    obtain ⟨b4, rfl⟩ := s4 (by decide)
    refine go ?_
    refine WO.sv rfl ?_
    refine SV.lss rfl rfl ?_
    refine go ?_
    refine W.cut 1403041571837666801475537439407631698869695245451264 rfl (fun _ : Unit => [(22, u8V (fb i6))]) (fun _ => OS (some ⟨b4, 0, none⟩) c4 (rep (fb i6)) :: DevH b' (e1.read i6).1 :: OS (some ⟨b3, 0, none⟩) c3 bs :: DevH b (e5.read i6).1 :: pts bm (.cells (mm.map Value.bool).toArray 71) :: L) (fun _ => True) ?_ ?_
    · refine W.if rfl (fun h => ?_) (fun h => ?_)
      · obtain ⟨ab, ao, rfl⟩ := r0.at (by omega)
        refine go ?_
        refine WO.sv rfl ?_
        refine SV.loadR i6 rfl rds (by omega) (hfbg i6 (by omega)) ?_
        refine go ?_
        exact ⟨(), ⟨rfl, trivial⟩, rfl, trivial, ent⟩
      · refine go ?_
        exact ⟨(), ⟨by rw [hfb0 i6 (by omega)]; rfl, trivial⟩, rfl, trivial, ent⟩
    rintro _ bg7 _
    refine go ?_
    refine W.loopS 3138549371115663755073306471030564506577365594557101637696 rfl (fun k : Nat => [(23, .int .i64 k)]) (fun _ => OS (some ⟨b4, 0, none⟩) c4 (rep (fb i6)) :: DevH b' (e1.read i6).1 :: OS (some ⟨b3, 0, none⟩) c3 bs :: DevH b (e5.read i6).1 :: pts bm (.cells (mm.map Value.bool).toArray 71) :: L)
      (fun k => k ≤ 256) (fun k => 256 - k) 0 ⟨rfl, trivial⟩ (by omega) (Ent.app (Ent.refl _)) ?_
    intro k bg8 hk
    refine go ?_
    refine WO.sv rfl ?_
    refine SV.lssC rfl rfl ?_ ?_
    · intro hk1
      have hkl : k < bs.length := by omega
      have hgb : (bs.map u8V)[k]? = some (u8V bs[k]) := by simp [hkl]
      have hgm := hbs _ (List.getElem_mem hkl)
      generalize bs[k] = x at hgb hgm
      have hlt := x.toNat_lt
      refine go ?_
      refine W.drawA rfl (by kernel_rfl) (by kernel_rfl) ?_
      refine go ?_
      refine DA.q (v := u8V x) rfl rfl (SV.loadR k rfl (OS.rd tk (fun _ => ⟨b3, rfl⟩)) (by omega) hgb eqq) ?_
      refine go ?_
      refine DA.q (v := .bool true) rfl rfl (SV.load rfl (by rw [lget_eq, show 0 + (i6 : Int).toNat * 256 + (x.toNat : Int).toNat * 1 = i6 * 256 + x.toNat by omega, List.getElem?_map, List.getElem?_eq_getElem (by omega)]; rw [List.getD_eq_getElem?_getD, List.getElem?_eq_getElem (by omega)] at hgm; simpa using hgm) eqq) ?_
      refine go ?_
      refine DA.q (v := u8V (fb i6)) rfl rfl (SV.loadR k rfl (OS.rd tk (fun _ => ⟨b4, rfl⟩)) (by omega) (rep_get _ (by omega)) eqq) ?_
      refine go ?_
      exact ⟨k + 1, ⟨rfl, trivial⟩, rfl, by omega, by omega, fun _ _ x => x⟩
    · intro hk1
      refine go ?_
      refine ⟨(i6 + 1, (e5.read i6).1, (e1.read i6).1), ⟨rfl, trivial⟩, rfl, ⟨by dsimp only; omega, hrC, ?_, ?_, hqC, ?_, ?_⟩, by dsimp only; omega, Ent.app ent⟩
      · dsimp only; rw [hrc]; exact hk6
      · dsimp only; rw [hrc]; exact hn6
      · dsimp only; rw [hqc]; exact hk7
      · dsimp only; rw [hqc]; exact hn7
  · intro h1
    refine go ?_
    refine WO.callE (vs := []) Try.func44 rfl rfl rfl rfl (l7_one _) ?_
    rintro v M ⟨rfl, rfl⟩
    refine go ?_
    exact ⟨rfl, [_], ⟨Res.tmp rfl, trivial⟩, _, ent, rfl, rfl⟩
end Go.SL
