/- Layer 7: the law DevPlays, walked. -/
import Derived.Test.YtlcahhfbhjbgoaaDs
namespace Go.SL
open Go.Proofs
set_option linter.unusedVariables false
set_option maxRecDepth 10000
set_option maxHeartbeats 4000000
attribute [local irreducible] W WO SV OW SW Tri Ent Tk Has Src SrcK DA DB RdS Own

/-- The two devices, side by side. -/
abbrev plL (b b7 : Nat) (ka : Option Addr) (kc : Nat) (aa : Option Addr) (ac : Nat) (ba : Option Addr) (bc : Nat) (d : Dv) (L : List HP) : List HP :=
  DevH b d :: pts b7 (.cells (rvL ka kc aa ac ba bc d).toArray 80) :: Own 9 1 (.slice ka d.kept.length kc) d.kept.length (d.kept.map strV) :: Own 3 1 (.slice aa d.waits.length ac) d.waits.length (ats d) :: Own 9 1 (.slice ba d.waits.length bc) d.waits.length (bts d) :: L
abbrev PlS := Nat × Dv × Option Addr × Nat × Option Addr × Nat × Option Addr × Nat
def PlI (m : Nat) (s : PlS) : Prop := s.1 ≤ 60 ∧ s.2.1.Ok ∧ s.2.1.kept.length = m ∧ s.2.1.waits.length ≤ s.1 ∧ SomeA s.2.2.1 s.2.1.kept.length ∧ SomeA s.2.2.2.2.1 s.2.1.waits.length ∧ SomeA s.2.2.2.2.2.2.1 s.2.1.waits.length
abbrev plS (b b7 : Nat) (s : PlS) (L : List HP) : List HP := plL b b7 s.2.2.1 s.2.2.2.1 s.2.2.2.2.1 s.2.2.2.2.2.1 s.2.2.2.2.2.2.1 s.2.2.2.2.2.2.2 s.2.1 L

theorem Dv.call_parts {d : Dv} (h : d.kept.length ≠ 0) : ∃ arm' down' ops' e, d.call true = (⟨d.kept, d.now, d.waits, arm', down', ops'⟩, e) ∧ (e = 0 ∨ e = 17) := by
  refine ⟨(d.call true).1.arm, (d.call true).1.down, (d.call true).1.ops, (d.call true).2, ?_, ?_⟩
  · unfold Dv.call; rw [if_neg h, if_neg (by decide)]
  · unfold Dv.call; rw [if_neg h, if_neg (by decide)]; dsimp only; split
    · exact .inr rfl
    · exact .inl rfl
theorem Dv.is_to {d : Dv} {n : Int} (h : d.is n = true) : 0 ≤ n ∧ n < d.kept.length := by
  unfold Dv.is at h; simpa using h
theorem Dv.call_no {d : Dv} (h : d.kept.length ≠ 0) : d.call false = (d, 2) := by
  unfold Dv.call; rw [if_neg h, if_pos rfl]
theorem Dv.put_no {d : Dv} {n : Int} {s : Byt} (h : d.kept.length ≠ 0) (hi : d.is n = false ∨ s.length ≠ 256) : d.put n s = (d, 2) := by
  have e : (d.is n && decide (s.length = 256)) = false := by
    rcases hi with h1 | h1
    · rw [h1, Bool.false_and]
    · rw [decide_eq_false h1, Bool.and_false]
  unfold Dv.put; rw [e, Dv.call_no h]; rfl
theorem Dv.put_err {d d1 : Dv} {n : Int} {s : Byt} (hi : d.is n = true) (hs : s.length = 256) (hc : d.call true = (d1, 17)) : d.put n s = (d1, 17) := by
  unfold Dv.put; rw [hi, decide_eq_true hs, Bool.true_and, hc]; rfl
theorem Dv.put_go {d d1 : Dv} {n : Int} {s : Byt} (hi : d.is n = true) (hs : s.length = 256) (hc : d.call true = (d1, 0)) : d.put n s = ({ d1 with now := d.now.set n.toNat s, waits := d.waits ++ [(n.toNat, s)] }, 0) := by
  unfold Dv.put; rw [hi, decide_eq_true hs, Bool.true_and, hc]; rfl
theorem Dv.flush_err {d d1 : Dv} (hc : d.call true = (d1, 17)) : d.flush = (d1, 17) := by
  unfold Dv.flush; rw [hc]; rfl
theorem Dv.flush_go {d d1 : Dv} (hc : d.call true = (d1, 0)) : d.flush = ({ d1 with kept := flushN d.kept d.waits d.waits.length, waits := [] }, 0) := by
  unfold Dv.flush; rw [hc]; rfl
theorem dplays (n : Int) (a1 : Option Addr) (c1 : Nat) (l : List ActD) (L : List HP) (hn : -9223372036854775808 ≤ n ∧ n ≤ 9223372036854775807)
    (hb1 : l.length ≤ 9223372036854775807) (r1 : RdS 4 a1 l.length (l.flatMap actD) L) (hal : ∀ x ∈ l, ActD.Okk L x) :
    TriE Try.prog 8 #[.int .i64 n, .slice a1 l.length c1] (fun v M => v = .bool true ∧ M = L) L := by
  refine Tri.of (N := 227) (args := [.int .i64 n, .slice a1 l.length c1]) Try.func8 rfl rfl rfl ?_
  by_cases hbad : n < 1 ∨ 4096 < n
  · refine go ?_
    refine WO.callE (vs := [.int .i64 n]) Try.func35 rfl rfl rfl rfl (dv_NewBad n _ hbad) ?_
    rintro v M ⟨rfl, rfl⟩
    refine go ?_
    refine WO.callE (vs := [.int .i64 n]) Try.func45 rfl rfl rfl rfl (rf_NewBad n _ hbad) ?_
    rintro v M ⟨rfl, rfl⟩
    refine go ?_
    intro b7
    refine go ?_
    refine WO.callE (vs := []) Try.func44 rfl rfl rfl rfl (l7_one _) ?_
    rintro v M ⟨rfl, rfl⟩
    refine go ?_
    exact ⟨rfl, [_], ⟨Res.tmp rfl, trivial⟩, _, ent, rfl, rfl⟩
  obtain ⟨m, rfl⟩ : ∃ m : Nat, n = m := ⟨n.toNat, by omega⟩
  have hm1 : 1 ≤ m := by omega
  have hm2 : m ≤ 4096 := by omega
  clear hbad
  have hnl : (Dv.new m).kept.length = m := by simp [Dv.new]
  have hno := Dv.new_ok hm2
  refine go ?_
  refine WO.callE (vs := [.int .i64 m]) Try.func35 rfl rfl rfl rfl (dv_New m _ (by omega) (by omega)) ?_
  rintro v M ⟨b, rfl, rfl⟩
  refine go ?_
  refine WO.callE (vs := [.int .i64 m]) Try.func45 rfl rfl rfl rfl (rf_New m _ (by omega) (by omega)) ?_
  rintro v M ⟨ka0, kc0, rfl, hk0, rfl⟩
  rw [Int.toNat_natCast] at *
  refine go ?_
  intro b7
  refine go ?_
  by_cases h100 : 100 < m
  · refine go ?_
    refine WO.callE (vs := [.pointer (some ⟨b, 0, none⟩)]) Try.func46 rfl rfl rfl rfl (TriE.ent ent (dv_LenH b (Dv.new m) L)) ?_
    rintro v M ⟨rfl, rfl⟩
    rw [hnl]
    refine go ?_
    refine WO.callE (vs := []) Try.func44 rfl rfl rfl rfl (l7_one _) ?_
    rintro v M ⟨rfl, rfl⟩
    refine go ?_
    exact ⟨rfl, [_], ⟨Res.tmp rfl, trivial⟩, _, ent, rfl, rfl⟩
  refine go ?_
  refine W.loopS 1684996666696914987166688442938726917102321526408785709700231593488 rfl (fun s : PlS => [(9, .int .i64 s.1)]) (fun s => plS b b7 s L)
    (PlI m) (fun s => 60 - s.1) (0, Dv.new m, ka0, kc0, none, 0, none, 0) ⟨rfl, trivial⟩
    ⟨Nat.zero_le _, hno, hnl, Nat.zero_le _, hk0, fun h => absurd rfl h, fun h => absurd rfl h⟩ (Ent.app ?_) ?_
  · dsimp only [plS, plL]
    exact Ent.take tk (Ent.take tk (Ent.take tk (Ent.ownNil (Ent.ownNil ent))))
  clear hno hnl hk0
  rintro ⟨t, d, ka, kc, aa, ac, ba, bc⟩ bg0 hI
  dsimp only [plS, plL]
  have hI' := hI
  obtain ⟨ht, hok, hkl, hwl, hka, haa, hba⟩ := hI
  dsimp only at ht hok hkl hwl hka haa hba
  refine goC ?_
  refine W.cut 17944029765304320 rfl (fun s : Bool => [(53, .bool s)]) (fun _ => plL b b7 ka kc aa ac ba bc d L) (fun s => s = true → t < l.length ∧ t < 60) ?_ ?_
  · by_cases h1 : t < l.length
    · by_cases h2 : t < 60
      · refine go ?_
        exact ⟨true, ⟨rfl, trivial⟩, rfl, fun _ => ⟨h1, h2⟩, ent⟩
      · refine go ?_
        exact ⟨false, ⟨rfl, trivial⟩, rfl, fun h => (by cases h), ent⟩
    · refine go ?_
      exact ⟨false, ⟨rfl, trivial⟩, rfl, fun h => (by cases h), ent⟩
  rintro b53 bg1 hb53
  dsimp only [plL]
  refine goC ?_
  refine W.cond rfl (fun e => ?_) (fun e => ?_)
  · subst e
    obtain ⟨h1, h2⟩ := hb53 rfl
    clear hb53
    obtain ⟨ab, ao, rfl⟩ := r1.at (by omega)
    have hsub := flat_sub (g := actD) (n := 4) (fun _ => rfl) l t h1
    have hx := hal _ (List.getElem_mem h1)
    generalize l[t] = x at hsub hx
    obtain ⟨kind, xn, xc, xka, xks, xkc⟩ := x
    obtain ⟨⟨hki1, hki2⟩, ⟨hxn1, hxn2⟩, hkl2, rks⟩ := hx
    dsimp only at hki1 hki2 hxn1 hxn2 hkl2 rks
    have hlt := xc.toNat_lt
    refine go ?_
    refine WO.sv rfl ?_
    refine SV.loadRN (t * 4) rfl rds (by simp) (by decide) (by rw [flat_len (n := 4) (fun _ => rfl)]; omega) hsub ?_
    refine go ?_
    intro b10
    refine WO.sv rfl ?_
    refine SV.store rfl rfl cel rfl rfl rfl frz le0 nl ?_
    refine WO.nil ?_
    refine W.seq ?_
    refine W.cut 589142888854098806784 rfl (fun _ : Unit => [(11, .bool (d.is xn))]) (fun _ => plL b b7 ka kc aa ac ba bc d (pts b10 (.cells [Value.int .i64 kind, Value.int .i64 xn, u8V xc, Value.slice xka xks.length xkc].toArray 75) :: L)) (fun _ => True) ?_ ?_
    · by_cases h5 : 0 ≤ xn
      · by_cases h6 : xn < m
        · refine go ?_
          exact ⟨(), ⟨by rw [Dv.is_of ⟨h5, by omega⟩]; rfl, trivial⟩, rfl, trivial, ent⟩
        · have h7 : (m : Int) ≤ xn := by omega
          refine go ?_
          exact ⟨(), ⟨by rw [Dv.is, decide_eq_false (show ¬ xn < d.kept.length by omega), Bool.and_false]; rfl, trivial⟩, rfl, trivial, ent⟩
      · have h7 : xn < 0 := by omega
        refine go ?_
        exact ⟨(), ⟨by rw [Dv.is, decide_eq_false h5, Bool.false_and]; rfl, trivial⟩, rfl, trivial, ent⟩
    rintro _ bg2 _
    dsimp only [plL, rvL]
    refine W.seq ?_
    refine W.cut 1606938044258990275541962092341162602521612697972434129778704 rfl (fun _ : Dv × Option Addr × Nat × Option Addr × Nat × Option Addr × Nat => []) (fun s => plS b b7 (t + 1, s) L) (fun s => PlI m (t + 1, s)) ?_ ?_
    · have hk0 : d.kept.length ≠ 0 := by omega
      obtain ⟨arm', down', ops', e, hcall, he⟩ := Dv.call_parts hk0
      have hok1 := Dv.call_ok hok true
      rw [hcall] at hok1
      by_cases k3 : kind = 3
      · subst k3
        refine go ?_
        refine WO.callE (vs := [.pointer (some ⟨b, 0, none⟩), .int .i64 xn]) Try.func47 rfl rfl rfl rfl (dv_Arm b d xn _ hxn2) ?_
        rintro v M rfl
        rw [if_neg hk0]
        refine go ?_
        refine ⟨({ d with arm := max (-1) xn }, ka, kc, aa, ac, ba, bc), trivial, rfl, ⟨by dsimp only; omega, ⟨hok.now, hok.size, hok.k256, hok.n256, hok.w256, by dsimp only; omega, hok.sync⟩, hkl, by dsimp only; omega, hka, haa, hba⟩, ?_⟩
        dsimp only [plS, plL, rvL]
        exact ent
      by_cases k4 : kind = 4
      · subst k4
        by_cases hks : 100 < xks.length
        · refine go ?_
          exact ⟨rfl, [_], ⟨Res.tmp rfl, trivial⟩, _, ent, rfl, rfl⟩
        refine go ?_
        refine WO.callE (vs := [.pointer (some ⟨b, 0, none⟩), .slice xka xks.length xkc]) Try.func41 rfl rfl rfl rfl (dv_Fall b d xka xkc xks _ hok (by omega) hkl2 rds) ?_
        rintro v M rfl
        refine go ?_
        refine WO.callE (vs := [.agg (rvL ka kc aa ac ba bc d).toArray, .slice xka xks.length xkc]) Try.func48 rfl rfl rfl rfl (rf_Fall ka kc aa ac ba bc d xka xkc xks _ hok hk0 (by omega) hkl2 (RdS.own tk hka (by simp)) (RdS.own tk haa (by simp)) (RdS.own tk hba (by simp)) rds) ?_
        rintro v M ⟨ka', kc', rfl, hka', rfl⟩
        have f1 := Dv.fall_ok hok xks
        have f2 : (d.fall xks).kept.length = m := by rw [Dv.fall, if_neg hk0]; simp only [fallN_len]; exact hkl
        have f3 : (d.fall xks).waits = [] := by rw [Dv.fall, if_neg hk0]
        generalize d.fall xks = d' at f1 f2 f3 hka' ⊢
        obtain ⟨kept', now', waits', arm2, down2, ops2⟩ := d'
        dsimp only at f3
        subst f3
        dsimp only [rvL]
        refine go ?_
        refine ⟨(⟨kept', now', [], arm2, down2, ops2⟩, ka', kc', none, 0, none, 0), trivial, rfl, ⟨by dsimp only; omega, f1, f2, Nat.zero_le _, hka', fun h => absurd rfl h, fun h => absurd rfl h⟩, ?_⟩
        dsimp only [plS, plL, rvL]
        exact Ent.take tk (Ent.take tk (Ent.take tk (Ent.ownNil (Ent.ownNil ent))))
      by_cases k1 : kind = 1
      · subst k1
        by_cases his : d.is xn = true
        · rw [his]
          obtain ⟨hx1, hx2⟩ := Dv.is_to his
          obtain ⟨k, rfl⟩ : ∃ k : Nat, xn = k := ⟨xn.toNat, by omega⟩
          rcases he with rfl | rfl
          · have hput := Dv.put_go (s := rep xc) his (rep_len _) hcall
            have hpok := Dv.put_ok hok k (rep xc)
            rw [hput] at hpok
            rw [Int.toNat_natCast] at hput hpok
            dsimp only at hput hpok
            refine go ?_
            refine W.drawB #[0, 0, 2, 0, 8, 24, 63, 127] [pts b10 (.cells [Value.int .i64 1, Value.int .i64 k, u8V xc, Value.slice xka xks.length xkc].toArray 75)] (DevH b d :: pts b7 (.cells [Value.slice ka d.kept.length kc, Value.slice aa d.waits.length ac, Value.slice ba d.waits.length bc, Value.int .i64 d.arm, Value.bool d.down, Value.int .i64 d.ops].toArray 80) :: Own 9 1 (.slice ka d.kept.length kc) d.kept.length (d.kept.map strV) :: Own 3 1 (.slice aa d.waits.length ac) d.waits.length (ats d) :: Own 9 1 (.slice ba d.waits.length bc) d.waits.length (bts d) :: L) rfl (by kernel_rfl) (by kernel_rfl) (by kernel_rfl) ent ?_
            refine go ?_
            refine DB.callE (vs := [u8V xc]) Try.func37 rfl rfl rfl rfl hl hl (l7_BlockR xc _) ?_
            rintro v M ⟨a3, c3, rfl, s3, rfl⟩
            refine ⟨[], OS a3 c3 (rep xc) :: DevH b d :: pts b7 (.cells [Value.slice ka d.kept.length kc, Value.slice aa d.waits.length ac, Value.slice ba d.waits.length bc, Value.int .i64 d.arm, Value.bool d.down, Value.int .i64 d.ops].toArray 80) :: Own 9 1 (.slice ka d.kept.length kc) d.kept.length (d.kept.map strV) :: Own 3 1 (.slice aa d.waits.length ac) d.waits.length (ats d) :: Own 9 1 (.slice ba d.waits.length bc) d.waits.length (bts d) :: L, ent, ?_⟩
            refine go ?_
            refine DB.callE (vs := [.pointer (some ⟨b, 0, none⟩), .int .i64 k, .slice a3 (rep xc).length c3]) Try.func36 rfl rfl rfl rfl hl hl (TriE.ent ent (dv_Write b d k a3 c3 (rep xc) (OS a3 c3 (rep xc) :: pts b10 (.cells [Value.int .i64 1, Value.int .i64 k, u8V xc, Value.slice xka xks.length xkc].toArray 75) :: pts b7 (.cells [Value.slice ka d.kept.length kc, Value.slice aa d.waits.length ac, Value.slice ba d.waits.length bc, Value.int .i64 d.arm, Value.bool d.down, Value.int .i64 d.ops].toArray 80) :: Own 9 1 (.slice ka d.kept.length kc) d.kept.length (d.kept.map strV) :: Own 3 1 (.slice aa d.waits.length ac) d.waits.length (ats d) :: Own 9 1 (.slice ba d.waits.length bc) d.waits.length (bts d) :: L) hok (by rw [rep_len]; decide) (by omega) (OS.rd tk s3))) ?_
            rintro v M ⟨rfl, rfl⟩
            rw [hput]
            refine ⟨[], DevH b ⟨d.kept, d.now.set k (rep xc), d.waits ++ [(k, rep xc)], arm', down', ops'⟩ :: pts b7 (.cells [Value.slice ka d.kept.length kc, Value.slice aa d.waits.length ac, Value.slice ba d.waits.length bc, Value.int .i64 d.arm, Value.bool d.down, Value.int .i64 d.ops].toArray 80) :: Own 9 1 (.slice ka d.kept.length kc) d.kept.length (d.kept.map strV) :: Own 3 1 (.slice aa d.waits.length ac) d.waits.length (ats d) :: Own 9 1 (.slice ba d.waits.length bc) d.waits.length (bts d) :: L, ent, ?_⟩
            refine go ?_
            refine ⟨pts b10 (.cells [Value.int .i64 1, Value.int .i64 k, u8V xc, Value.slice xka xks.length xkc].toArray 75) :: DevH b ⟨d.kept, d.now.set k (rep xc), d.waits ++ [(k, rep xc)], arm', down', ops'⟩ :: pts b7 (.cells [Value.slice ka d.kept.length kc, Value.slice aa d.waits.length ac, Value.slice ba d.waits.length bc, Value.int .i64 d.arm, Value.bool d.down, Value.int .i64 d.ops].toArray 80) :: Own 9 1 (.slice ka d.kept.length kc) d.kept.length (d.kept.map strV) :: Own 3 1 (.slice aa d.waits.length ac) d.waits.length (ats d) :: Own 9 1 (.slice ba d.waits.length bc) d.waits.length (bts d) :: L, ent, ?_⟩
            refine go ?_
            refine WO.callE (vs := [.agg (rvL ka kc aa ac ba bc d).toArray]) Try.func49 rfl rfl rfl rfl (rf_Call ka kc aa ac ba bc d _ hk0 hok.arm) ?_
            rintro v M ⟨rfl, rfl⟩
            rw [hcall]
            dsimp only [rvL]
            rw [show decide ((0 : Int) = 0) = true from rfl]
            refine go ?_
            intro b15
            refine go ?_
            refine W.drawB #[0, 0, 3, 7, 15, 31, 63, 127, 255, 511, 1023, 2047, 4095, 8191, 16383, 32767, 65535, 131071, 262143, 524287, 1048575, 2097151, 4194303, 8388607, 4194303, 4194303, 37748735, 121634815, 268435455, 536870911, 1073741823, 2147483647, 4294967295, 8589934591, 17179869183, 34359738367, 68719476735, 137438953471, 274877906943, 549755813887] [pts b10 (.cells [Value.int .i64 1, Value.int .i64 k, u8V xc, Value.slice xka xks.length xkc].toArray 75)] (DevH b ⟨d.kept, d.now.set k (rep xc), d.waits ++ [(k, rep xc)], arm', down', ops'⟩ :: pts b7 (.cells [Value.slice ka d.kept.length kc, Value.slice aa d.waits.length ac, Value.slice ba d.waits.length bc, Value.int .i64 arm', Value.bool down', Value.int .i64 ops'].toArray 80) :: Own 9 1 (.slice ka d.kept.length kc) d.kept.length (d.kept.map strV) :: Own 3 1 (.slice aa d.waits.length ac) d.waits.length (ats d) :: Own 9 1 (.slice ba d.waits.length bc) d.waits.length (bts d) :: L) rfl (by kernel_rfl) (by kernel_rfl) (by kernel_rfl) ent ?_
            refine go ?_
            refine ⟨pts b10 (.cells [Value.int .i64 1, Value.int .i64 k, u8V xc, Value.slice xka xks.length xkc].toArray 75) :: DevH b ⟨d.kept, d.now.set k (rep xc), d.waits ++ [(k, rep xc)], arm', down', ops'⟩ :: pts b7 (.cells [Value.slice ka d.kept.length kc, Value.slice aa d.waits.length ac, Value.slice ba d.waits.length bc, Value.int .i64 arm', Value.bool down', Value.int .i64 ops'].toArray 80) :: Own 9 1 (.slice ka d.kept.length kc) d.kept.length (d.kept.map strV) :: Own 3 1 (.slice aa d.waits.length ac) d.waits.length (ats d) :: Own 9 1 (.slice ba d.waits.length bc) d.waits.length (bts d) :: L, ent, ?_⟩
            refine go ?_
            refine W.drawC 8 #[0, 0, 2, 0, 8, 24, 56, 127, 255] [pts b10 (.cells [Value.int .i64 1, Value.int .i64 k, u8V xc, Value.slice xka xks.length xkc].toArray 75), pts b7 (.cells [Value.slice ka d.kept.length kc, Value.slice aa d.waits.length ac, Value.slice ba d.waits.length bc, Value.int .i64 arm', Value.bool down', Value.int .i64 ops'].toArray 80)] (DevH b ⟨d.kept, d.now.set k (rep xc), d.waits ++ [(k, rep xc)], arm', down', ops'⟩ :: Own 9 1 (.slice ka d.kept.length kc) d.kept.length (d.kept.map strV) :: Own 3 1 (.slice aa d.waits.length ac) d.waits.length (ats d) :: Own 9 1 (.slice ba d.waits.length bc) d.waits.length (bts d) :: L) rfl (by kernel_rfl) (by kernel_rfl) (by kernel_rfl) (by kernel_rfl) rfl rfl rfl ent ?_
            refine go ?_
            refine DB.callE (vs := [u8V xc]) Try.func37 rfl rfl rfl rfl hl hl (l7_BlockR xc _) ?_
            rintro v M ⟨a4, c4, rfl, s4, rfl⟩
            refine ⟨[OS a4 c4 (rep xc)], DevH b ⟨d.kept, d.now.set k (rep xc), d.waits ++ [(k, rep xc)], arm', down', ops'⟩ :: Own 9 1 (.slice ka d.kept.length kc) d.kept.length (d.kept.map strV) :: Own 3 1 (.slice aa d.waits.length ac) d.waits.length (ats d) :: Own 9 1 (.slice ba d.waits.length bc) d.waits.length (bts d) :: L, ent, ?_⟩
            refine go ?_
            refine DB.q (v := strV (rep xc)) rfl rfl hl (SV.toStrR rfl (OS.rd tk s4) eqq) ?_
            refine go ?_
            refine DB.callE (vs := [.agg (rvL ka kc aa ac ba bc ⟨d.kept, d.now, d.waits, arm', down', ops'⟩).toArray, .int .i64 k, strV (rep xc)]) Try.func51 rfl rfl rfl rfl hl hl (rf_Write ka kc aa ac ba bc ⟨d.kept, d.now, d.waits, arm', down', ops'⟩ k (rep xc) _ (by dsimp only; omega) (RdS.own tk haa (by simp)) (RdS.own tk hba (by simp))) ?_
            rintro v M ⟨aa', ac', ba', bc', rfl, haa', hba', rfl⟩
            dsimp only [rvL] at haa' hba' ⊢
            refine ⟨[], DevH b ⟨d.kept, d.now.set k (rep xc), d.waits ++ [(k, rep xc)], arm', down', ops'⟩ :: Own 3 1 (.slice aa' (d.waits ++ [(k, rep xc)]).length ac') (d.waits ++ [(k, rep xc)]).length ((d.waits ++ [(k, rep xc)]).map fun w => iN w.1) :: Own 9 1 (.slice ba' (d.waits ++ [(k, rep xc)]).length bc') (d.waits ++ [(k, rep xc)]).length ((d.waits ++ [(k, rep xc)]).map fun w => strV w.2) :: Own 9 1 (.slice ka d.kept.length kc) d.kept.length (d.kept.map strV) :: L, ent, ?_⟩
            refine go ?_
            refine ⟨pts b7 (.cells [Value.slice ka d.kept.length kc, Value.slice aa d.waits.length ac, Value.slice ba d.waits.length bc, Value.int .i64 arm', Value.bool down', Value.int .i64 ops'].toArray 80) :: pts b10 (.cells [Value.int .i64 1, Value.int .i64 k, u8V xc, Value.slice xka xks.length xkc].toArray 75) :: DevH b ⟨d.kept, d.now.set k (rep xc), d.waits ++ [(k, rep xc)], arm', down', ops'⟩ :: Own 3 1 (.slice aa' (d.waits ++ [(k, rep xc)]).length ac') (d.waits ++ [(k, rep xc)]).length ((d.waits ++ [(k, rep xc)]).map fun w => iN w.1) :: Own 9 1 (.slice ba' (d.waits ++ [(k, rep xc)]).length bc') (d.waits ++ [(k, rep xc)]).length ((d.waits ++ [(k, rep xc)]).map fun w => strV w.2) :: Own 9 1 (.slice ka d.kept.length kc) d.kept.length (d.kept.map strV) :: L, ent, OW.sv ?_⟩
            refine SV.store rfl rfl cel rfl rfl rfl frz le0 nl ?_
            refine ⟨_, Ent.refl _, ?_⟩
            refine go ?_
            refine ⟨(⟨d.kept, d.now.set k (rep xc), d.waits ++ [(k, rep xc)], arm', down', ops'⟩, ka, kc, aa', ac', ba', bc'), trivial, rfl, ⟨by dsimp only; omega, hpok, hkl, by dsimp only; rw [List.length_append, List.length_singleton]; omega, hka, haa', hba'⟩, ?_⟩
            dsimp only [plS, plL, rvL]
            exact ent
          · have hput := Dv.put_err (s := rep xc) his (rep_len _) hcall
            refine go ?_
            refine W.drawB #[0, 0, 2, 0, 8, 24, 63, 127] [pts b10 (.cells [Value.int .i64 1, Value.int .i64 k, u8V xc, Value.slice xka xks.length xkc].toArray 75)] (DevH b d :: pts b7 (.cells [Value.slice ka d.kept.length kc, Value.slice aa d.waits.length ac, Value.slice ba d.waits.length bc, Value.int .i64 d.arm, Value.bool d.down, Value.int .i64 d.ops].toArray 80) :: Own 9 1 (.slice ka d.kept.length kc) d.kept.length (d.kept.map strV) :: Own 3 1 (.slice aa d.waits.length ac) d.waits.length (ats d) :: Own 9 1 (.slice ba d.waits.length bc) d.waits.length (bts d) :: L) rfl (by kernel_rfl) (by kernel_rfl) (by kernel_rfl) ent ?_
            refine go ?_
            refine DB.callE (vs := [u8V xc]) Try.func37 rfl rfl rfl rfl hl hl (l7_BlockR xc _) ?_
            rintro v M ⟨a3, c3, rfl, s3, rfl⟩
            refine ⟨[], OS a3 c3 (rep xc) :: DevH b d :: pts b7 (.cells [Value.slice ka d.kept.length kc, Value.slice aa d.waits.length ac, Value.slice ba d.waits.length bc, Value.int .i64 d.arm, Value.bool d.down, Value.int .i64 d.ops].toArray 80) :: Own 9 1 (.slice ka d.kept.length kc) d.kept.length (d.kept.map strV) :: Own 3 1 (.slice aa d.waits.length ac) d.waits.length (ats d) :: Own 9 1 (.slice ba d.waits.length bc) d.waits.length (bts d) :: L, ent, ?_⟩
            refine go ?_
            refine DB.callE (vs := [.pointer (some ⟨b, 0, none⟩), .int .i64 k, .slice a3 (rep xc).length c3]) Try.func36 rfl rfl rfl rfl hl hl (TriE.ent ent (dv_Write b d k a3 c3 (rep xc) (OS a3 c3 (rep xc) :: pts b10 (.cells [Value.int .i64 1, Value.int .i64 k, u8V xc, Value.slice xka xks.length xkc].toArray 75) :: pts b7 (.cells [Value.slice ka d.kept.length kc, Value.slice aa d.waits.length ac, Value.slice ba d.waits.length bc, Value.int .i64 d.arm, Value.bool d.down, Value.int .i64 d.ops].toArray 80) :: Own 9 1 (.slice ka d.kept.length kc) d.kept.length (d.kept.map strV) :: Own 3 1 (.slice aa d.waits.length ac) d.waits.length (ats d) :: Own 9 1 (.slice ba d.waits.length bc) d.waits.length (bts d) :: L) hok (by rw [rep_len]; decide) (by omega) (OS.rd tk s3))) ?_
            rintro v M ⟨rfl, rfl⟩
            rw [hput]
            refine ⟨[], DevH b ⟨d.kept, d.now, d.waits, arm', down', ops'⟩ :: pts b7 (.cells [Value.slice ka d.kept.length kc, Value.slice aa d.waits.length ac, Value.slice ba d.waits.length bc, Value.int .i64 d.arm, Value.bool d.down, Value.int .i64 d.ops].toArray 80) :: Own 9 1 (.slice ka d.kept.length kc) d.kept.length (d.kept.map strV) :: Own 3 1 (.slice aa d.waits.length ac) d.waits.length (ats d) :: Own 9 1 (.slice ba d.waits.length bc) d.waits.length (bts d) :: L, ent, ?_⟩
            refine go ?_
            refine ⟨pts b10 (.cells [Value.int .i64 1, Value.int .i64 k, u8V xc, Value.slice xka xks.length xkc].toArray 75) :: DevH b ⟨d.kept, d.now, d.waits, arm', down', ops'⟩ :: pts b7 (.cells [Value.slice ka d.kept.length kc, Value.slice aa d.waits.length ac, Value.slice ba d.waits.length bc, Value.int .i64 d.arm, Value.bool d.down, Value.int .i64 d.ops].toArray 80) :: Own 9 1 (.slice ka d.kept.length kc) d.kept.length (d.kept.map strV) :: Own 3 1 (.slice aa d.waits.length ac) d.waits.length (ats d) :: Own 9 1 (.slice ba d.waits.length bc) d.waits.length (bts d) :: L, ent, ?_⟩
            refine go ?_
            refine WO.callE (vs := [.agg (rvL ka kc aa ac ba bc d).toArray]) Try.func49 rfl rfl rfl rfl (rf_Call ka kc aa ac ba bc d _ hk0 hok.arm) ?_
            rintro v M ⟨rfl, rfl⟩
            rw [hcall]
            dsimp only [rvL]
            rw [show decide ((17 : Int) = 0) = false from rfl]
            refine go ?_
            intro b15
            refine go ?_
            refine W.drawB #[0, 0, 3, 7, 15, 31, 63, 127, 255, 511, 1023, 2047, 4095, 8191, 16383, 32767, 65535, 131071, 262143, 524287, 1048575, 2097151, 4194303, 8388607, 4194303, 4194303, 37748735, 121634815, 268435455, 536870911, 1073741823, 2147483647, 4294967295, 8589934591, 17179869183, 34359738367, 68719476735, 137438953471, 274877906943, 549755813887] [pts b10 (.cells [Value.int .i64 1, Value.int .i64 k, u8V xc, Value.slice xka xks.length xkc].toArray 75)] (DevH b ⟨d.kept, d.now, d.waits, arm', down', ops'⟩ :: pts b7 (.cells [Value.slice ka d.kept.length kc, Value.slice aa d.waits.length ac, Value.slice ba d.waits.length bc, Value.int .i64 arm', Value.bool down', Value.int .i64 ops'].toArray 80) :: Own 9 1 (.slice ka d.kept.length kc) d.kept.length (d.kept.map strV) :: Own 3 1 (.slice aa d.waits.length ac) d.waits.length (ats d) :: Own 9 1 (.slice ba d.waits.length bc) d.waits.length (bts d) :: L) rfl (by kernel_rfl) (by kernel_rfl) (by kernel_rfl) ent ?_
            refine go ?_
            refine ⟨pts b10 (.cells [Value.int .i64 1, Value.int .i64 k, u8V xc, Value.slice xka xks.length xkc].toArray 75) :: DevH b ⟨d.kept, d.now, d.waits, arm', down', ops'⟩ :: pts b7 (.cells [Value.slice ka d.kept.length kc, Value.slice aa d.waits.length ac, Value.slice ba d.waits.length bc, Value.int .i64 arm', Value.bool down', Value.int .i64 ops'].toArray 80) :: Own 9 1 (.slice ka d.kept.length kc) d.kept.length (d.kept.map strV) :: Own 3 1 (.slice aa d.waits.length ac) d.waits.length (ats d) :: Own 9 1 (.slice ba d.waits.length bc) d.waits.length (bts d) :: L, ent, ?_⟩
            refine go ?_
            refine ⟨(⟨d.kept, d.now, d.waits, arm', down', ops'⟩, ka, kc, aa, ac, ba, bc), trivial, rfl, ⟨by dsimp only; omega, hok1, hkl, by dsimp only; omega, hka, haa, hba⟩, ?_⟩
            dsimp only [plS, plL, rvL]
            exact ent
        · have his' : d.is xn = false := by simpa using his
          rw [his']
          have hput := Dv.put_no (s := rep xc) hk0 (.inl his')
          refine go ?_
          refine W.drawB #[0, 0, 2, 0, 8, 24, 63, 127] [pts b10 (.cells [Value.int .i64 1, Value.int .i64 xn, u8V xc, Value.slice xka xks.length xkc].toArray 75)] (DevH b d :: pts b7 (.cells [Value.slice ka d.kept.length kc, Value.slice aa d.waits.length ac, Value.slice ba d.waits.length bc, Value.int .i64 d.arm, Value.bool d.down, Value.int .i64 d.ops].toArray 80) :: Own 9 1 (.slice ka d.kept.length kc) d.kept.length (d.kept.map strV) :: Own 3 1 (.slice aa d.waits.length ac) d.waits.length (ats d) :: Own 9 1 (.slice ba d.waits.length bc) d.waits.length (bts d) :: L) rfl (by kernel_rfl) (by kernel_rfl) (by kernel_rfl) ent ?_
          refine go ?_
          refine DB.callE (vs := [u8V xc]) Try.func37 rfl rfl rfl rfl hl hl (l7_BlockR xc _) ?_
          rintro v M ⟨a3, c3, rfl, s3, rfl⟩
          refine ⟨[], OS a3 c3 (rep xc) :: DevH b d :: pts b7 (.cells [Value.slice ka d.kept.length kc, Value.slice aa d.waits.length ac, Value.slice ba d.waits.length bc, Value.int .i64 d.arm, Value.bool d.down, Value.int .i64 d.ops].toArray 80) :: Own 9 1 (.slice ka d.kept.length kc) d.kept.length (d.kept.map strV) :: Own 3 1 (.slice aa d.waits.length ac) d.waits.length (ats d) :: Own 9 1 (.slice ba d.waits.length bc) d.waits.length (bts d) :: L, ent, ?_⟩
          refine go ?_
          refine DB.callE (vs := [.pointer (some ⟨b, 0, none⟩), .int .i64 xn, .slice a3 (rep xc).length c3]) Try.func36 rfl rfl rfl rfl hl hl (TriE.ent ent (dv_Write b d xn a3 c3 (rep xc) (OS a3 c3 (rep xc) :: pts b10 (.cells [Value.int .i64 1, Value.int .i64 xn, u8V xc, Value.slice xka xks.length xkc].toArray 75) :: pts b7 (.cells [Value.slice ka d.kept.length kc, Value.slice aa d.waits.length ac, Value.slice ba d.waits.length bc, Value.int .i64 d.arm, Value.bool d.down, Value.int .i64 d.ops].toArray 80) :: Own 9 1 (.slice ka d.kept.length kc) d.kept.length (d.kept.map strV) :: Own 3 1 (.slice aa d.waits.length ac) d.waits.length (ats d) :: Own 9 1 (.slice ba d.waits.length bc) d.waits.length (bts d) :: L) hok (by rw [rep_len]; decide) (by omega) (OS.rd tk s3))) ?_
          rintro v M ⟨rfl, rfl⟩
          rw [hput]
          refine ⟨[], DevH b d :: pts b7 (.cells [Value.slice ka d.kept.length kc, Value.slice aa d.waits.length ac, Value.slice ba d.waits.length bc, Value.int .i64 d.arm, Value.bool d.down, Value.int .i64 d.ops].toArray 80) :: Own 9 1 (.slice ka d.kept.length kc) d.kept.length (d.kept.map strV) :: Own 3 1 (.slice aa d.waits.length ac) d.waits.length (ats d) :: Own 9 1 (.slice ba d.waits.length bc) d.waits.length (bts d) :: L, ent, ?_⟩
          refine go ?_
          refine ⟨pts b10 (.cells [Value.int .i64 1, Value.int .i64 xn, u8V xc, Value.slice xka xks.length xkc].toArray 75) :: DevH b d :: pts b7 (.cells [Value.slice ka d.kept.length kc, Value.slice aa d.waits.length ac, Value.slice ba d.waits.length bc, Value.int .i64 d.arm, Value.bool d.down, Value.int .i64 d.ops].toArray 80) :: Own 9 1 (.slice ka d.kept.length kc) d.kept.length (d.kept.map strV) :: Own 3 1 (.slice aa d.waits.length ac) d.waits.length (ats d) :: Own 9 1 (.slice ba d.waits.length bc) d.waits.length (bts d) :: L, ent, ?_⟩
          refine go ?_
          refine W.drawB #[0, 0, 3, 7, 15, 31, 63, 127, 255, 511, 1023, 2047, 4095, 8191, 16383, 32767, 65535, 131071, 262143, 524287, 1048575, 2097151, 4194303, 8388607, 4194303, 4194303, 37748735, 121634815, 268435455, 536870911, 1073741823, 2147483647, 4294967295, 8589934591, 17179869183, 34359738367, 68719476735, 137438953471, 274877906943, 549755813887] [pts b10 (.cells [Value.int .i64 1, Value.int .i64 xn, u8V xc, Value.slice xka xks.length xkc].toArray 75)] (DevH b d :: pts b7 (.cells [Value.slice ka d.kept.length kc, Value.slice aa d.waits.length ac, Value.slice ba d.waits.length bc, Value.int .i64 d.arm, Value.bool d.down, Value.int .i64 d.ops].toArray 80) :: Own 9 1 (.slice ka d.kept.length kc) d.kept.length (d.kept.map strV) :: Own 3 1 (.slice aa d.waits.length ac) d.waits.length (ats d) :: Own 9 1 (.slice ba d.waits.length bc) d.waits.length (bts d) :: L) rfl (by kernel_rfl) (by kernel_rfl) (by kernel_rfl) ent ?_
          refine go ?_
          refine ⟨pts b10 (.cells [Value.int .i64 1, Value.int .i64 xn, u8V xc, Value.slice xka xks.length xkc].toArray 75) :: DevH b d :: pts b7 (.cells [Value.slice ka d.kept.length kc, Value.slice aa d.waits.length ac, Value.slice ba d.waits.length bc, Value.int .i64 d.arm, Value.bool d.down, Value.int .i64 d.ops].toArray 80) :: Own 9 1 (.slice ka d.kept.length kc) d.kept.length (d.kept.map strV) :: Own 3 1 (.slice aa d.waits.length ac) d.waits.length (ats d) :: Own 9 1 (.slice ba d.waits.length bc) d.waits.length (bts d) :: L, ent, ?_⟩
          refine go ?_
          refine ⟨(d, ka, kc, aa, ac, ba, bc), trivial, rfl, ⟨by dsimp only; omega, hok, hkl, by dsimp only; omega, hka, haa, hba⟩, ?_⟩
          dsimp only [plS, plL, rvL]
          exact ent
      by_cases k2 : kind = 2
      · subst k2
        rcases he with rfl | rfl
        · have hfl := Dv.flush_go hcall
          have hfok := Dv.flush_ok hok
          rw [hfl] at hfok
          dsimp only at hfl hfok
          refine go ?_
          refine WO.callE (vs := [.pointer (some ⟨b, 0, none⟩)]) Try.func38 rfl rfl rfl rfl (dv_Flush b d _ hok (by omega)) ?_
          rintro v M ⟨rfl, rfl⟩
          rw [hfl]
          dsimp only
          refine go ?_
          refine WO.callE (vs := [.agg (rvL ka kc aa ac ba bc d).toArray]) Try.func49 rfl rfl rfl rfl (rf_Call ka kc aa ac ba bc d _ hk0 hok.arm) ?_
          rintro v M ⟨rfl, rfl⟩
          rw [hcall]
          dsimp only [rvL]
          rw [show decide ((0 : Int) = 0) = true from rfl]
          refine go ?_
          intro b15
          refine go ?_
          refine W.drawB #[0, 0, 3, 7, 15, 31, 63, 127, 255, 511, 1023, 2047, 4095, 8191, 16383, 32767, 65535, 131071, 262143, 524287, 1048575, 2097151, 4194303, 8388607, 4194303, 4194303, 37748735, 121634815, 268435455, 536870911, 1073741823, 2147483647, 4294967295, 8589934591, 17179869183, 34359738367, 68719476735, 137438953471, 274877906943, 549755813887] [pts b10 (.cells [Value.int .i64 2, Value.int .i64 xn, u8V xc, Value.slice xka xks.length xkc].toArray 75)] (DevH b ⟨(flushN d.kept d.waits d.waits.length), d.now, [], arm', down', ops'⟩ :: pts b7 (.cells [Value.slice ka d.kept.length kc, Value.slice aa d.waits.length ac, Value.slice ba d.waits.length bc, Value.int .i64 arm', Value.bool down', Value.int .i64 ops'].toArray 80) :: Own 9 1 (.slice ka d.kept.length kc) d.kept.length (d.kept.map strV) :: Own 3 1 (.slice aa d.waits.length ac) d.waits.length (ats d) :: Own 9 1 (.slice ba d.waits.length bc) d.waits.length (bts d) :: L) rfl (by kernel_rfl) (by kernel_rfl) (by kernel_rfl) ent ?_
          refine go ?_
          refine ⟨pts b10 (.cells [Value.int .i64 2, Value.int .i64 xn, u8V xc, Value.slice xka xks.length xkc].toArray 75) :: DevH b ⟨(flushN d.kept d.waits d.waits.length), d.now, [], arm', down', ops'⟩ :: pts b7 (.cells [Value.slice ka d.kept.length kc, Value.slice aa d.waits.length ac, Value.slice ba d.waits.length bc, Value.int .i64 arm', Value.bool down', Value.int .i64 ops'].toArray 80) :: Own 9 1 (.slice ka d.kept.length kc) d.kept.length (d.kept.map strV) :: Own 3 1 (.slice aa d.waits.length ac) d.waits.length (ats d) :: Own 9 1 (.slice ba d.waits.length bc) d.waits.length (bts d) :: L, ent, ?_⟩
          refine go ?_
          refine WO.callE (vs := [.agg (rvL ka kc aa ac ba bc ⟨d.kept, d.now, d.waits, arm', down', ops'⟩).toArray]) Try.func52 rfl rfl rfl rfl (rf_Flush ka kc aa ac ba bc ⟨d.kept, d.now, d.waits, arm', down', ops'⟩ _ hok1 (by dsimp only; omega) (RdS.own tk hka (by simp)) (RdS.own tk haa (by simp)) (RdS.own tk hba (by simp))) ?_
          rintro v M ⟨ka', kc', rfl, hka', rfl⟩
          dsimp only [rvL] at hka' ⊢
          have hfk := flushN_len d.kept d.waits d.waits.length
          generalize hkk : (flushN d.kept d.waits d.waits.length) = kk at *
          refine go ?_
          refine ⟨(⟨kk, d.now, [], arm', down', ops'⟩, ka', kc', none, 0, none, 0), trivial, rfl, ⟨by dsimp only; omega, hfok, by dsimp only; omega, Nat.zero_le _, fun h => hka' (by dsimp only at h; omega), fun h => absurd rfl h, fun h => absurd rfl h⟩, ?_⟩
          dsimp only [plS, plL, rvL]
          rw [hfk]
          exact Ent.take tk (Ent.take tk (Ent.take tk (Ent.ownNil (Ent.ownNil ent))))
        · have hfl := Dv.flush_err hcall
          refine go ?_
          refine WO.callE (vs := [.pointer (some ⟨b, 0, none⟩)]) Try.func38 rfl rfl rfl rfl (dv_Flush b d _ hok (by omega)) ?_
          rintro v M ⟨rfl, rfl⟩
          rw [hfl]
          dsimp only
          refine go ?_
          refine WO.callE (vs := [.agg (rvL ka kc aa ac ba bc d).toArray]) Try.func49 rfl rfl rfl rfl (rf_Call ka kc aa ac ba bc d _ hk0 hok.arm) ?_
          rintro v M ⟨rfl, rfl⟩
          rw [hcall]
          dsimp only [rvL]
          rw [show decide ((17 : Int) = 0) = false from rfl]
          refine go ?_
          intro b15
          refine go ?_
          refine W.drawB #[0, 0, 3, 7, 15, 31, 63, 127, 255, 511, 1023, 2047, 4095, 8191, 16383, 32767, 65535, 131071, 262143, 524287, 1048575, 2097151, 4194303, 8388607, 4194303, 4194303, 37748735, 121634815, 268435455, 536870911, 1073741823, 2147483647, 4294967295, 8589934591, 17179869183, 34359738367, 68719476735, 137438953471, 274877906943, 549755813887] [pts b10 (.cells [Value.int .i64 2, Value.int .i64 xn, u8V xc, Value.slice xka xks.length xkc].toArray 75)] (DevH b ⟨d.kept, d.now, d.waits, arm', down', ops'⟩ :: pts b7 (.cells [Value.slice ka d.kept.length kc, Value.slice aa d.waits.length ac, Value.slice ba d.waits.length bc, Value.int .i64 arm', Value.bool down', Value.int .i64 ops'].toArray 80) :: Own 9 1 (.slice ka d.kept.length kc) d.kept.length (d.kept.map strV) :: Own 3 1 (.slice aa d.waits.length ac) d.waits.length (ats d) :: Own 9 1 (.slice ba d.waits.length bc) d.waits.length (bts d) :: L) rfl (by kernel_rfl) (by kernel_rfl) (by kernel_rfl) ent ?_
          refine go ?_
          refine ⟨pts b10 (.cells [Value.int .i64 2, Value.int .i64 xn, u8V xc, Value.slice xka xks.length xkc].toArray 75) :: DevH b ⟨d.kept, d.now, d.waits, arm', down', ops'⟩ :: pts b7 (.cells [Value.slice ka d.kept.length kc, Value.slice aa d.waits.length ac, Value.slice ba d.waits.length bc, Value.int .i64 arm', Value.bool down', Value.int .i64 ops'].toArray 80) :: Own 9 1 (.slice ka d.kept.length kc) d.kept.length (d.kept.map strV) :: Own 3 1 (.slice aa d.waits.length ac) d.waits.length (ats d) :: Own 9 1 (.slice ba d.waits.length bc) d.waits.length (bts d) :: L, ent, ?_⟩
          refine go ?_
          refine ⟨(⟨d.kept, d.now, d.waits, arm', down', ops'⟩, ka, kc, aa, ac, ba, bc), trivial, rfl, ⟨by dsimp only; omega, hok1, hkl, by dsimp only; omega, hka, haa, hba⟩, ?_⟩
          dsimp only [plS, plL, rvL]
          exact ent
      by_cases k5 : kind = 5
      · subst k5
        have hput := Dv.put_no (n := xn) (s := [xc]) hk0 (.inr (by simp))
        refine go ?_
        refine WO.sv rfl ?_
        refine SV.lit rfl rfl rfl parts rfl nl ?_
        intro bl
        refine go ?_
        refine WO.callE (vs := [.pointer (some ⟨b, 0, none⟩), .int .i64 xn, .slice (some ⟨bl, 0, none⟩) 1 1]) Try.func36 rfl rfl rfl rfl (TriE.ent ent (dv_Write b d xn (some ⟨bl, 0, none⟩) 1 [xc] (pts bl (.cells [u8V xc].toArray 5) :: pts b10 (.cells [Value.int .i64 5, Value.int .i64 xn, u8V xc, Value.slice xka xks.length xkc].toArray 75) :: pts b7 (.cells [Value.slice ka d.kept.length kc, Value.slice aa d.waits.length ac, Value.slice ba d.waits.length bc, Value.int .i64 d.arm, Value.bool d.down, Value.int .i64 d.ops].toArray 80) :: Own 9 1 (.slice ka d.kept.length kc) d.kept.length (d.kept.map strV) :: Own 3 1 (.slice aa d.waits.length ac) d.waits.length (ats d) :: Own 9 1 (.slice ba d.waits.length bc) d.waits.length (bts d) :: L) hok (by simp) (by omega) (RdS.all (sz := 1) (n := 1) rfl))) ?_
        rintro v M ⟨rfl, rfl⟩
        rw [hput]
        dsimp only
        refine go ?_
        refine W.drawB #[0, 0, 3, 7, 15, 31, 63, 127, 255, 511, 1023, 2047, 4095, 8191, 16383, 32767, 65535, 131071, 262143, 524287, 1048575, 2097151, 4194303, 8388607, 4194303, 4194303, 37748735, 121634815, 268435455, 536870911, 1073741823, 2147483647, 4294967295, 8589934591, 17179869183, 34359738367, 68719476735, 137438953471, 274877906943, 549755813887] [pts b10 (.cells [Value.int .i64 5, Value.int .i64 xn, u8V xc, Value.slice xka xks.length xkc].toArray 75)] (DevH b d :: pts b7 (.cells [Value.slice ka d.kept.length kc, Value.slice aa d.waits.length ac, Value.slice ba d.waits.length bc, Value.int .i64 d.arm, Value.bool d.down, Value.int .i64 d.ops].toArray 80) :: Own 9 1 (.slice ka d.kept.length kc) d.kept.length (d.kept.map strV) :: Own 3 1 (.slice aa d.waits.length ac) d.waits.length (ats d) :: Own 9 1 (.slice ba d.waits.length bc) d.waits.length (bts d) :: L) rfl (by kernel_rfl) (by kernel_rfl) (by kernel_rfl) ent ?_
        refine go ?_
        refine ⟨pts b10 (.cells [Value.int .i64 5, Value.int .i64 xn, u8V xc, Value.slice xka xks.length xkc].toArray 75) :: DevH b d :: pts b7 (.cells [Value.slice ka d.kept.length kc, Value.slice aa d.waits.length ac, Value.slice ba d.waits.length bc, Value.int .i64 d.arm, Value.bool d.down, Value.int .i64 d.ops].toArray 80) :: Own 9 1 (.slice ka d.kept.length kc) d.kept.length (d.kept.map strV) :: Own 3 1 (.slice aa d.waits.length ac) d.waits.length (ats d) :: Own 9 1 (.slice ba d.waits.length bc) d.waits.length (bts d) :: L, ent, ?_⟩
        refine go ?_
        refine ⟨(d, ka, kc, aa, ac, ba, bc), trivial, rfl, ⟨by dsimp only; omega, hok, hkl, by dsimp only; omega, hka, haa, hba⟩, ?_⟩
        dsimp only [plS, plL, rvL]
        exact ent
      by_cases his : d.is xn = true
      · rw [his]
        obtain ⟨hx1, hx2⟩ := Dv.is_to his
        obtain ⟨k, rfl⟩ : ∃ k : Nat, xn = k := ⟨xn.toNat, by omega⟩
        have hrd : d.read k = d.call true := by unfold Dv.read; rw [his]
        rw [hcall] at hrd
        rcases he with rfl | rfl
        · have hs0 : (d.now.getD (k : Int).toNat []).length = 256 := mem256 hok.n256 (by rw [hok.now]; omega)
          have hs1 : d.now.getD (k : Int).toNat [] = d.now.getD k [] := by rw [Int.toNat_natCast]
          generalize hs2 : d.now.getD (k : Int).toNat [] = s0 at hs0 hs1
          refine go ?_
          refine WO.callE (vs := [.pointer (some ⟨b, 0, none⟩), .int .i64 k]) Try.func40 rfl rfl rfl rfl (dv_Read b d k _ hok) ?_
          rw [hrd]
          dsimp only
          rintro v M (⟨h, _⟩ | ⟨_, a3, c3, rfl, s3, rfl⟩)
          · exact absurd rfl h
          rw [hs2]
          rw [show Value.slice a3 256 c3 = Value.slice a3 s0.length c3 by rw [hs0]]
          have s4 : SomeA a3 s0.length := fun _ => s3 (by decide)
          refine go ?_
          refine WO.callE (vs := [.agg (rvL ka kc aa ac ba bc d).toArray]) Try.func49 rfl rfl rfl rfl (rf_Call ka kc aa ac ba bc d _ hk0 hok.arm) ?_
          rintro v M ⟨rfl, rfl⟩
          rw [hcall]
          dsimp only [rvL]
          rw [show decide ((0 : Int) = 0) = true from rfl]
          refine go ?_
          intro b15
          refine go ?_
          refine W.drawB #[0, 0, 3, 7, 15, 31, 63, 127, 255, 511, 1023, 2047, 4095, 8191, 16383, 32767, 65535, 131071, 262143, 524287, 1048575, 2097151, 4194303, 8388607, 4194303, 4194303, 37748735, 121634815, 268435455, 536870911, 1073741823, 2147483647, 4294967295, 8589934591, 17179869183, 34359738367, 68719476735, 137438953471, 274877906943, 549755813887] [pts b10 (.cells [Value.int .i64 kind, Value.int .i64 k, u8V xc, Value.slice xka xks.length xkc].toArray 75), pts b7 (.cells [Value.slice ka d.kept.length kc, Value.slice aa d.waits.length ac, Value.slice ba d.waits.length bc, Value.int .i64 arm', Value.bool down', Value.int .i64 ops'].toArray 80), OS a3 c3 s0] (DevH b ⟨d.kept, d.now, d.waits, arm', down', ops'⟩ :: Own 9 1 (.slice ka d.kept.length kc) d.kept.length (d.kept.map strV) :: Own 3 1 (.slice aa d.waits.length ac) d.waits.length (ats d) :: Own 9 1 (.slice ba d.waits.length bc) d.waits.length (bts d) :: L) rfl (by kernel_rfl) (by kernel_rfl) (by kernel_rfl) ent ?_
          refine go ?_
          refine DB.q (v := strV s0) rfl rfl hl (SV.toStrR rfl (OS.rd tk s4) eqq) ?_
          refine go ?_
          refine DB.callE (vs := [.agg (rvL ka kc aa ac ba bc ⟨d.kept, d.now, d.waits, arm', down', ops'⟩).toArray, .int .i64 k]) Try.func50 rfl rfl rfl rfl hl hl (rf_Now ka kc aa ac ba bc ⟨d.kept, d.now, d.waits, arm', down', ops'⟩ k _ hok1 (by dsimp only; omega) (by dsimp only; omega) (RdS.own tk hka (by simp)) (RdS.own tk haa (by simp)) (RdS.own tk hba (by simp))) ?_
          rintro v M ⟨rfl, rfl⟩
          dsimp only
          rw [← hs1]
          refine ⟨[], DevH b ⟨d.kept, d.now, d.waits, arm', down', ops'⟩ :: Own 9 1 (.slice ka d.kept.length kc) d.kept.length (d.kept.map strV) :: Own 3 1 (.slice aa d.waits.length ac) d.waits.length (ats d) :: Own 9 1 (.slice ba d.waits.length bc) d.waits.length (bts d) :: L, ent, ?_⟩
          refine go ?_
          refine DB.q (v := .bool false) rfl rfl hl (SV.neqSF rfl rfl rfl eqq) ?_
          refine go ?_
          refine ⟨pts b10 (.cells [Value.int .i64 kind, Value.int .i64 k, u8V xc, Value.slice xka xks.length xkc].toArray 75) :: DevH b ⟨d.kept, d.now, d.waits, arm', down', ops'⟩ :: pts b7 (.cells [Value.slice ka d.kept.length kc, Value.slice aa d.waits.length ac, Value.slice ba d.waits.length bc, Value.int .i64 arm', Value.bool down', Value.int .i64 ops'].toArray 80) :: Own 9 1 (.slice ka d.kept.length kc) d.kept.length (d.kept.map strV) :: Own 3 1 (.slice aa d.waits.length ac) d.waits.length (ats d) :: Own 9 1 (.slice ba d.waits.length bc) d.waits.length (bts d) :: L, ent, ?_⟩
          refine go ?_
          refine ⟨(⟨d.kept, d.now, d.waits, arm', down', ops'⟩, ka, kc, aa, ac, ba, bc), trivial, rfl, ⟨by dsimp only; omega, hok1, hkl, by dsimp only; omega, hka, haa, hba⟩, ?_⟩
          dsimp only [plS, plL, rvL]
          exact ent
        · refine go ?_
          refine WO.callE (vs := [.pointer (some ⟨b, 0, none⟩), .int .i64 k]) Try.func40 rfl rfl rfl rfl (dv_Read b d k _ hok) ?_
          rw [hrd]
          dsimp only
          rintro v M (⟨_, rfl, rfl⟩ | ⟨h, _⟩)
          rotate_left
          · exact absurd h (by decide)
          refine go ?_
          refine WO.callE (vs := [.agg (rvL ka kc aa ac ba bc d).toArray]) Try.func49 rfl rfl rfl rfl (rf_Call ka kc aa ac ba bc d _ hk0 hok.arm) ?_
          rintro v M ⟨rfl, rfl⟩
          rw [hcall]
          dsimp only [rvL]
          rw [show decide ((17 : Int) = 0) = false from rfl]
          refine go ?_
          intro b15
          refine go ?_
          refine W.drawB #[0, 0, 3, 7, 15, 31, 63, 127, 255, 511, 1023, 2047, 4095, 8191, 16383, 32767, 65535, 131071, 262143, 524287, 1048575, 2097151, 4194303, 8388607, 4194303, 4194303, 37748735, 121634815, 268435455, 536870911, 1073741823, 2147483647, 4294967295, 8589934591, 17179869183, 34359738367, 68719476735, 137438953471, 274877906943, 549755813887] [pts b10 (.cells [Value.int .i64 kind, Value.int .i64 k, u8V xc, Value.slice xka xks.length xkc].toArray 75)] (DevH b ⟨d.kept, d.now, d.waits, arm', down', ops'⟩ :: pts b7 (.cells [Value.slice ka d.kept.length kc, Value.slice aa d.waits.length ac, Value.slice ba d.waits.length bc, Value.int .i64 arm', Value.bool down', Value.int .i64 ops'].toArray 80) :: Own 9 1 (.slice ka d.kept.length kc) d.kept.length (d.kept.map strV) :: Own 3 1 (.slice aa d.waits.length ac) d.waits.length (ats d) :: Own 9 1 (.slice ba d.waits.length bc) d.waits.length (bts d) :: L) rfl (by kernel_rfl) (by kernel_rfl) (by kernel_rfl) ent ?_
          refine go ?_
          refine ⟨pts b10 (.cells [Value.int .i64 kind, Value.int .i64 k, u8V xc, Value.slice xka xks.length xkc].toArray 75) :: DevH b ⟨d.kept, d.now, d.waits, arm', down', ops'⟩ :: pts b7 (.cells [Value.slice ka d.kept.length kc, Value.slice aa d.waits.length ac, Value.slice ba d.waits.length bc, Value.int .i64 arm', Value.bool down', Value.int .i64 ops'].toArray 80) :: Own 9 1 (.slice ka d.kept.length kc) d.kept.length (d.kept.map strV) :: Own 3 1 (.slice aa d.waits.length ac) d.waits.length (ats d) :: Own 9 1 (.slice ba d.waits.length bc) d.waits.length (bts d) :: L, ent, ?_⟩
          refine go ?_
          refine ⟨(⟨d.kept, d.now, d.waits, arm', down', ops'⟩, ka, kc, aa, ac, ba, bc), trivial, rfl, ⟨by dsimp only; omega, hok1, hkl, by dsimp only; omega, hka, haa, hba⟩, ?_⟩
          dsimp only [plS, plL, rvL]
          exact ent
      · have his' : d.is xn = false := by simpa using his
        rw [his']
        have hrd : d.read xn = (d, 2) := by unfold Dv.read; rw [his', Dv.call_no hk0]
        refine go ?_
        refine WO.callE (vs := [.pointer (some ⟨b, 0, none⟩), .int .i64 xn]) Try.func40 rfl rfl rfl rfl (dv_Read b d xn _ hok) ?_
        rw [hrd]
        dsimp only
        rintro v M (⟨_, rfl, rfl⟩ | ⟨h, _⟩)
        rotate_left
        · exact absurd h (by decide)
        refine go ?_
        refine W.drawB #[0, 0, 3, 7, 15, 31, 63, 127, 255, 511, 1023, 2047, 4095, 8191, 16383, 32767, 65535, 131071, 262143, 524287, 1048575, 2097151, 4194303, 8388607, 4194303, 4194303, 37748735, 121634815, 268435455, 536870911, 1073741823, 2147483647, 4294967295, 8589934591, 17179869183, 34359738367, 68719476735, 137438953471, 274877906943, 549755813887] [pts b10 (.cells [Value.int .i64 kind, Value.int .i64 xn, u8V xc, Value.slice xka xks.length xkc].toArray 75)] (DevH b d :: pts b7 (.cells [Value.slice ka d.kept.length kc, Value.slice aa d.waits.length ac, Value.slice ba d.waits.length bc, Value.int .i64 d.arm, Value.bool d.down, Value.int .i64 d.ops].toArray 80) :: Own 9 1 (.slice ka d.kept.length kc) d.kept.length (d.kept.map strV) :: Own 3 1 (.slice aa d.waits.length ac) d.waits.length (ats d) :: Own 9 1 (.slice ba d.waits.length bc) d.waits.length (bts d) :: L) rfl (by kernel_rfl) (by kernel_rfl) (by kernel_rfl) ent ?_
        refine go ?_
        refine ⟨pts b10 (.cells [Value.int .i64 kind, Value.int .i64 xn, u8V xc, Value.slice xka xks.length xkc].toArray 75) :: DevH b d :: pts b7 (.cells [Value.slice ka d.kept.length kc, Value.slice aa d.waits.length ac, Value.slice ba d.waits.length bc, Value.int .i64 d.arm, Value.bool d.down, Value.int .i64 d.ops].toArray 80) :: Own 9 1 (.slice ka d.kept.length kc) d.kept.length (d.kept.map strV) :: Own 3 1 (.slice aa d.waits.length ac) d.waits.length (ats d) :: Own 9 1 (.slice ba d.waits.length bc) d.waits.length (bts d) :: L, ent, ?_⟩
        refine go ?_
        refine ⟨(d, ka, kc, aa, ac, ba, bc), trivial, rfl, ⟨by dsimp only; omega, hok, hkl, by dsimp only; omega, hka, haa, hba⟩, ?_⟩
        dsimp only [plS, plL, rvL]
        exact ent
    rintro ⟨d', ka', kc', aa', ac', ba', bc'⟩ bg3 hI2
    have hI3 := hI2
    obtain ⟨_, hok', hkl', hwl', hka2, haa2, hba2⟩ := hI2
    dsimp only at hok' hkl' hwl' hka2 haa2 hba2
    clear hok hkl hwl hka haa hba hI'
    dsimp only [plS, plL, rvL]
    have hdn : (!decide (d'.kept.length = 0) && d'.down) = d'.down := by rw [decide_eq_false (by omega)]; rfl
    have hop : (if d'.kept.length = 0 then 0 else d'.ops) = d'.ops := if_neg (by omega)
    refine W.seq ?_
    refine W.drawB #[0, 1, 0, 4, 15, 31, 63, 127, 63, 319, 1023, 2047, 4095, 8191, 16383, 8191, 40959, 106495, 262143, 524287] [pts b7 (.cells [Value.slice ka' d'.kept.length kc', Value.slice aa' d'.waits.length ac', Value.slice ba' d'.waits.length bc', Value.int .i64 d'.arm, Value.bool d'.down, Value.int .i64 d'.ops].toArray 80)] (DevH b d' :: Own 9 1 (.slice ka' d'.kept.length kc') d'.kept.length (d'.kept.map strV) :: Own 3 1 (.slice aa' d'.waits.length ac') d'.waits.length (ats d') :: Own 9 1 (.slice ba' d'.waits.length bc') d'.waits.length (bts d') :: L) rfl (by kernel_rfl) (by kernel_rfl) (by kernel_rfl) ent ?_
    obtain ⟨kept', now', waits', arm', down', ops'⟩ := d'
    dsimp only at hok' hkl' hwl' hka2 haa2 hba2 hdn hop ⊢
    cases down'
    all_goals
      refine go ?_
      refine DB.callE (vs := [.pointer (some ⟨b, 0, none⟩)]) Try.func43 rfl rfl rfl rfl hl hl (TriE.ent ent (dv_Down b _ (pts b7 (.cells [Value.slice ka' kept'.length kc', Value.slice aa' waits'.length ac', Value.slice ba' waits'.length bc', Value.int .i64 arm', Value.bool _, Value.int .i64 ops'].toArray 80) :: Own 9 1 (.slice ka' kept'.length kc') kept'.length (kept'.map strV) :: Own 3 1 (.slice aa' waits'.length ac') waits'.length (waits'.map fun w => iN w.1) :: Own 9 1 (.slice ba' waits'.length bc') waits'.length (waits'.map fun w => strV w.2) :: L))) ?_
      rintro v M ⟨rfl, rfl⟩
      dsimp only
      rw [hdn]
      refine ⟨[], DevH b ⟨kept', now', waits', arm', _, ops'⟩ :: Own 9 1 (.slice ka' kept'.length kc') kept'.length (kept'.map strV) :: Own 3 1 (.slice aa' waits'.length ac') waits'.length (waits'.map fun w => iN w.1) :: Own 9 1 (.slice ba' waits'.length bc') waits'.length (waits'.map fun w => strV w.2) :: L, ent, ?_⟩
      refine go ?_
      refine DB.callE (vs := [.pointer (some ⟨b, 0, none⟩)]) Try.func53 rfl rfl rfl rfl hl hl (TriE.ent ent (dv_Ops b _ (pts b7 (.cells [Value.slice ka' kept'.length kc', Value.slice aa' waits'.length ac', Value.slice ba' waits'.length bc', Value.int .i64 arm', Value.bool _, Value.int .i64 ops'].toArray 80) :: Own 9 1 (.slice ka' kept'.length kc') kept'.length (kept'.map strV) :: Own 3 1 (.slice aa' waits'.length ac') waits'.length (waits'.map fun w => iN w.1) :: Own 9 1 (.slice ba' waits'.length bc') waits'.length (waits'.map fun w => strV w.2) :: L))) ?_
      rintro v M ⟨rfl, rfl⟩
      dsimp only
      rw [hop]
      refine ⟨[], DevH b ⟨kept', now', waits', arm', _, ops'⟩ :: Own 9 1 (.slice ka' kept'.length kc') kept'.length (kept'.map strV) :: Own 3 1 (.slice aa' waits'.length ac') waits'.length (waits'.map fun w => iN w.1) :: Own 9 1 (.slice ba' waits'.length bc') waits'.length (waits'.map fun w => strV w.2) :: L, ent, ?_⟩
      refine go ?_
      refine DB.callE (vs := [.pointer (some ⟨b, 0, none⟩)]) Try.func42 rfl rfl rfl rfl hl hl (TriE.ent ent (dv_Waiting b _ (pts b7 (.cells [Value.slice ka' kept'.length kc', Value.slice aa' waits'.length ac', Value.slice ba' waits'.length bc', Value.int .i64 arm', Value.bool _, Value.int .i64 ops'].toArray 80) :: Own 9 1 (.slice ka' kept'.length kc') kept'.length (kept'.map strV) :: Own 3 1 (.slice aa' waits'.length ac') waits'.length (waits'.map fun w => iN w.1) :: Own 9 1 (.slice ba' waits'.length bc') waits'.length (waits'.map fun w => strV w.2) :: L))) ?_
      rintro v M ⟨rfl, rfl⟩
      dsimp only
      rw [if_neg (by omega)]
      refine ⟨[], DevH b ⟨kept', now', waits', arm', _, ops'⟩ :: Own 9 1 (.slice ka' kept'.length kc') kept'.length (kept'.map strV) :: Own 3 1 (.slice aa' waits'.length ac') waits'.length (waits'.map fun w => iN w.1) :: Own 9 1 (.slice ba' waits'.length bc') waits'.length (waits'.map fun w => strV w.2) :: L, ent, ?_⟩
      refine go ?_
      refine ⟨pts b7 (.cells [Value.slice ka' kept'.length kc', Value.slice aa' waits'.length ac', Value.slice ba' waits'.length bc', Value.int .i64 arm', Value.bool _, Value.int .i64 ops'].toArray 80) :: DevH b ⟨kept', now', waits', arm', _, ops'⟩ :: Own 9 1 (.slice ka' kept'.length kc') kept'.length (kept'.map strV) :: Own 3 1 (.slice aa' waits'.length ac') waits'.length (waits'.map fun w => iN w.1) :: Own 9 1 (.slice ba' waits'.length bc') waits'.length (waits'.map fun w => strV w.2) :: L, ent, ?_⟩
      refine go ?_
      refine ⟨(t + 1, ⟨kept', now', waits', arm', _, ops'⟩, ka', kc', aa', ac', ba', bc'), ⟨rfl, trivial⟩, rfl, hI3, by dsimp only; omega, Ent.app ?_⟩
      dsimp only [plS, plL, rvL]
      exact ent
  · subst e
    refine go ?_
    refine WO.callE (vs := [.pointer (some ⟨b, 0, none⟩)]) Try.func46 rfl rfl rfl rfl (dv_LenH b d _) ?_
    rintro v M ⟨rfl, rfl⟩
    rw [hkl]
    refine go ?_
    refine WO.callE (vs := []) Try.func44 rfl rfl rfl rfl (l7_one _) ?_
    rintro v M ⟨rfl, rfl⟩
    refine go ?_
    exact ⟨rfl, [_], ⟨Res.tmp rfl, trivial⟩, _, ent, rfl, rfl⟩
end Go.SL
