/- Layer 8: marks: the law MarkTorn, walked. -/
import Derived.Test.YtlcahhfbhjbgoaaDoorMs
import Derived.Test.YtlcahhfbhjbgoaaDoorMr
import Derived.Test.YtlcahhfbhjbgoaaDoorSlL
namespace Go.SL
open Go.Proofs
set_option linter.unusedVariables false
set_option maxRecDepth 10000
set_option maxHeartbeats 4000000
attribute [local irreducible] W WO SV OW SW Tri Ent Tk Has Src SrcK DA DB RdS Own

theorem RdS.take {b off n k : Nat} {xs : List Value} {L : List HP} (r : RdS 1 (some ⟨b, off, none⟩) n xs L) (h : k ≤ n) : RdS 1 (some ⟨b, off, none⟩) k (xs.take k) L := by
  have := RdS.sub (i := 0) r (show 0 + k ≤ n by omega)
  simpa using this
abbrev PY (b : Nat) (p : Byt) : HP := Own 5 1 (.slice (some ⟨b, 0, none⟩) 220 220) 220 (p.map u8V)
/-- The other block, if it is one. -/
def wasI (q : Option (Option Addr × Nat)) (B : Byt) : List HP := match q with | none => [] | some q => [OS q.1 q.2 B]
def wasOk (q : Option (Option Addr × Nat)) : Prop := match q with | none => True | some q => SomeA q.1 256
theorem mk_torn (L : List HP) (k : UInt8) (e s : Nat) (k2 : UInt8) (e2 s2 : Nat) (a0 a1 a2 : Int) (he : e < 18446744073709551616) (hs : s < 18446744073709551616) (he2 : e2 < 18446744073709551616) (hs2 : s2 < 18446744073709551616) :
    TriE Tryd.prog 6 #[.agg (mkL k e s).toArray, .agg (mkL k2 e2 s2).toArray, .agg [Value.int .i64 a0, .int .i64 a1, .int .i64 a2].toArray] (fun v M => v = .bool true ∧ M = L) L := by
  have hklt := k.toNat_lt
  refine Tri.of (N := 188) (args := [.agg (mkL k e s).toArray, .agg (mkL k2 e2 s2).toArray, .agg [Value.int .i64 a0, .int .i64 a1, .int .i64 a2].toArray]) Tryd.func6 rfl rfl rfl ?_
  dsimp only [mkL]
  refine go ?_
  intro b3
  refine go ?_
  intro b4
  refine go ?_
  intro b5
  refine WO.sv rfl ?_
  refine SV.assign rfl ?_
  refine goC ?_
  refine W.cut 68451041280 rfl (fun t : Bool => [(35, .bool t)]) (fun _ => pts b5 (.cells [Value.int .i64 a0, .int .i64 a1, .int .i64 a2].toArray 43) :: pts b4 (.cells [u8V k2, .int .u64 e2, .int .u64 s2].toArray 24) :: pts b3 (.cells [u8V k, .int .u64 e, .int .u64 s].toArray 24) :: L) (fun t => t = !mkR k) ?_ ?_
  · by_cases h0 : k.toNat = 0
    · refine go ?_
      exact ⟨true, ⟨rfl, trivial⟩, rfl, by unfold mkR; rw [decide_eq_true h0]; rfl, ent⟩
    · by_cases h3 : k.toNat = 3
      · refine go ?_
        exact ⟨true, ⟨rfl, trivial⟩, rfl, by unfold mkR; rw [decide_eq_true h3, Bool.not_true, Bool.and_false]; rfl, ent⟩
      · refine go ?_
        exact ⟨false, ⟨rfl, trivial⟩, rfl, by unfold mkR; rw [decide_eq_false h0, decide_eq_false h3]; rfl, ent⟩
  rintro t bg ht
  refine goC ?_
  refine W.cut 68719476736 rfl (fun _ : UInt8 => []) (fun x => pts b5 (.cells [Value.int .i64 a0, .int .i64 a1, .int .i64 a2].toArray 43) :: pts b4 (.cells [u8V k2, .int .u64 e2, .int .u64 s2].toArray 24) :: pts b3 (.cells [u8V x, .int .u64 e, .int .u64 s].toArray 24) :: L) (fun x => mkR x = true) ?_ ?_
  · refine W.cond rfl (fun h => ?_) (fun h => ?_)
    · refine go ?_
      exact ⟨1, trivial, rfl, rfl, ent⟩
    · refine go ?_
      exact ⟨k, trivial, rfl, by rw [ht] at h; simpa using h, ent⟩
  rintro x bg2 hx
  refine go ?_
  refine WO.sv rfl ?_
  refine SV.makeSlice (m := 220) rfl rfl (by decide) (by decide) ?_
  intro b7
  rw [show List.replicate 220 (Value.int .u8 0) = (List.replicate 220 (0 : UInt8)).map u8V by rw [List.map_replicate]; rfl]
  refine go ?_
  refine W.loopS 1125625028935936 rfl (fun q : Nat × Byt => [(8, .int .i64 q.1)]) (fun q => Own 5 1 (.slice (some ⟨b7, 0, none⟩) 220 220) 220 (q.2.map u8V) :: pts b5 (.cells [Value.int .i64 a0, .int .i64 a1, .int .i64 a2].toArray 43) :: pts b4 (.cells [u8V k2, .int .u64 e2, .int .u64 s2].toArray 24) :: pts b3 (.cells [u8V x, .int .u64 e, .int .u64 s].toArray 24) :: L)
    (fun q => q.1 ≤ 220 ∧ q.2.length = 220) (fun q => 220 - q.1) (0, List.replicate 220 0) ⟨rfl, trivial⟩ ⟨Nat.zero_le _, List.length_replicate⟩ (Ent.app (Ent.trans ent (ent_own (sz := 1) (n := 220) (by simp)))) ?_
  rintro ⟨j, p⟩ bg3 ⟨hj, hp⟩
  dsimp only at hj hp ⊢
  by_cases h9 : j < 220
  · refine go ?_
    obtain ⟨c, hc⟩ := u8_any (IntKind.i64.wrap ((j : Int) + a0))
    refine WO.sv rfl ?_
    refine SV.storeB j (u := c) rfl tk (by omega) (congrArg (Value.int .u8) hc) (by omega) rfl ?_
    refine go ?_
    exact ⟨(j + 1, p.set j c), ⟨rfl, trivial⟩, rfl, ⟨by dsimp only; omega, by rw [List.length_set]; exact hp⟩, by dsimp only; omega, Ent.app ent⟩
  · have hj220 : j = 220 := by omega
    obtain ⟨m0, hm0, em0⟩ := i64_mask a0 255 (by decide)
    obtain ⟨m1, hm1, em1⟩ := i64_mask a1 255 (by decide)
    obtain ⟨at_, hat, em2⟩ := i64_mask a2 255 (by decide)
    have em0' : IntKind.wrap .i64 (((a0 % 2 ^ IntKind.bits .i64).toNat &&& ((255 : Int) % 2 ^ IntKind.bits .i64).toNat : Nat) : Int) = (m0 : Int) := em0
    have em1' : IntKind.wrap .i64 (((a1 % 2 ^ IntKind.bits .i64).toNat &&& ((255 : Int) % 2 ^ IntKind.bits .i64).toNat : Nat) : Int) = (m1 : Int) := em1
    have em2' : IntKind.wrap .i64 (((a2 % 2 ^ IntKind.bits .i64).toNat &&& ((255 : Int) % 2 ^ IntKind.bits .i64).toNat : Nat) : Int) = (at_ : Int) := em2
    have en : (m0 : Int).tmod 221 = ((m0 % 221 : Nat) : Int) := by rw [Int.tmod_eq_emod_of_nonneg (by omega)]; omega
    have ek : (m1 : Int).tmod 221 = ((m1 % 221 : Nat) : Int) := by rw [Int.tmod_eq_emod_of_nonneg (by omega)]; omega
    have hn : m0 % 221 ≤ 220 := by omega
    have hk : m1 % 221 ≤ 220 := by omega
    refine go ?_
    refine W.cut 2304717109306854912 rfl (fun _ : Unit => [(9, .int .i64 ((m0 % 221 : Nat) : Int)), (10, .int .i64 ((m1 % 221 : Nat) : Int)), (11, .int .i64 at_)]) (fun _ => PY b7 p :: pts b4 (.cells [u8V k2, .int .u64 e2, .int .u64 s2].toArray 24) :: pts b3 (.cells [u8V x, .int .u64 e, .int .u64 s].toArray 24) :: L) (fun _ => True) ?_ ?_
    · refine W.drawA rfl (by kernel_rfl) (by kernel_rfl) ?_
      refine go ?_
      refine DA.q (v := .int .i64 (m0 : Int)) rfl rfl (SV.band rfl rfl em0' eqq) ?_
      refine DA.q (v := .int .i64 ((m0 % 221 : Nat) : Int)) rfl rfl (SV.rem rfl rfl nz en eqq) ?_
      refine go ?_
      refine DA.q (v := .int .i64 (m1 : Int)) rfl rfl (SV.band rfl rfl em1' eqq) ?_
      refine DA.q (v := .int .i64 ((m1 % 221 : Nat) : Int)) rfl rfl (SV.rem rfl rfl nz ek eqq) ?_
      refine go ?_
      refine DA.q (v := .int .i64 (at_ : Int)) rfl rfl (SV.band rfl rfl em2' eqq) ?_
      refine go ?_
      exact ⟨(), ⟨rfl, rfl, rfl, trivial⟩, rfl, trivial, ent⟩
    clear em0 em1 em2 em0' em1' em2' en ek
    generalize m0 % 221 = n at *
    generalize m1 % 221 = k9 at *
    clear hm0 hm1 m0 m1
    obtain ⟨j9, hj9, rfl⟩ : ∃ j, j ≤ 220 ∧ k9 = 220 - j := ⟨220 - k9, by omega, by omega⟩
    rintro - bg4 -
    have hRd : ∀ M, RdS 1 (some ⟨b7, 0, none⟩) 220 (p.map u8V) (PY b7 p :: M) := fun M => RdS.ownS Tk.here (fun _ => ⟨b7, rfl⟩) (by simpa using hp)
    have hRn : ∀ M, RdS 1 (some ⟨b7, 0, none⟩) n ((p.take n).map u8V) (PY b7 p :: M) := fun M => by
      rw [List.map_take]; exact RdS.take (hRd M) hn
    have hpn : (p.take n).length = n := by rw [List.length_take]; omega
    have hSeal1 : ∀ M, TriE Tryd.prog 8 #[.agg (mkL x e s).toArray, .slice (some ⟨b7, 0, none⟩) n 220] (fun v M' => ∃ a' c', v = .tuple #[.slice a' (sealB x e s (p.take n)).length c', .int .i64 0] ∧ SomeA a' (sealB x e s (p.take n)).length ∧ M' = OS a' c' (sealB x e s (p.take n)) :: PY b7 p :: M) (PY b7 p :: M) := fun M => by
      have q := mk_Seal x e s (some ⟨b7, 0, none⟩) 220 (p.take n) (PY b7 p :: M) he hs (by omega) (by rw [hpn]; exact hRn M)
      have q := q.mono (Q' := fun v M' => ∃ a' c', v = .tuple #[.slice a' (sealB x e s (p.take n)).length c', .int .i64 0] ∧ SomeA a' (sealB x e s (p.take n)).length ∧ M' = OS a' c' (sealB x e s (p.take n)) :: PY b7 p :: M) (by
        rintro v M' (⟨h, _⟩ | ⟨_, h, _⟩ | ⟨_, _, a', c', rfl, s', hc', rfl⟩)
        · rw [hx] at h; cases h
        · omega
        · exact ⟨a', c', rfl, s', rfl⟩)
      rw [hpn] at q
      exact q
    refine goC ?_
    refine W.drawB #[0, 0, 0, 6, 15, 31, 63, 63, 127, 511] [PY b7 p, pts b3 (.cells [u8V x, .int .u64 e, .int .u64 s].toArray 24)] (pts b4 (.cells [u8V k2, .int .u64 e2, .int .u64 s2].toArray 24) :: L) rfl (by kernel_rfl) (by kernel_rfl) (by kernel_rfl) ent ?_
    refine go ?_
    refine DB.q (v := .slice (some ⟨b7, 0, none⟩) n 220) rfl rfl hl ?_ ?_
    · refine SV.cut (l := 0) (h := n) rfl rfl (cutAt.of rfl rfl) (by omega) (by omega) ?_
      intro off' ho
      rw [ho (.inr rfl)]
      exact eqq
    refine go ?_
    refine DB.callE (vs := [.agg (mkL x e s).toArray, .slice (some ⟨b7, 0, none⟩) n 220]) Tryd.func8 rfl rfl rfl rfl hl hl (hSeal1 _) ?_
    rintro v M ⟨a', c', rfl, s', rfl⟩
    refine ⟨[], OS a' c' (sealB x e s (p.take n)) :: pts b4 (.cells [u8V k2, .int .u64 e2, .int .u64 s2].toArray 24) :: L, ent, ?_⟩
    have hX : (sealB x e s (p.take n)).length = 256 := sealB_len (by omega)
    have hX1 : (sealB x e s (p.take n)).take 17 = mkB x e s := sealB_take
    have hX2 : (sealB x e s (p.take n)).drop 239 = mkB x e s := sealB_end (by omega)
    have hXo : rOK (sealB x e s (p.take n)) = true := rOK_iff.2 ⟨hX, sealB_ok (by omega) he hs hx⟩
    obtain ⟨hXk, hXe, hXs⟩ := mkB_read x e s ([0, UInt8.ofNat (p.take n).length] ++ ((p.take n) ++ (List.replicate (220 - (p.take n).length) 0 ++ mkB x e s))) he hs
    have hXb : opB (sealB x e s (p.take n)) = p.take n := sealB_opB (by omega)
    have hXr : rK (sealB x e s (p.take n)) = x ∧ rE (sealB x e s (p.take n)) = e ∧ rQ (sealB x e s (p.take n)) = s ∧ rB (sealB x e s (p.take n)) = p.take n ∧ rZ (sealB x e s (p.take n)) = 0 := by
      unfold rK rE rQ rB rZ
      rw [hXo]
      exact ⟨hXk, hXe, hXs, hXb, rfl⟩
    clear hXk hXe hXs hXb
    generalize sealB x e s (p.take n) = X1 at *
    refine go ?_
    refine ⟨OS a' c' X1 :: PY b7 p :: pts b4 (.cells [u8V k2, .int .u64 e2, .int .u64 s2].toArray 24) :: pts b3 (.cells [u8V x, .int .u64 e, .int .u64 s].toArray 24) :: L, ent, ?_⟩
    refine goC ?_
    refine W.cut (σ := Option (Option Addr × Nat)) 301641159093298588073984 rfl (fun q => [(14, match q with | none => .slice none 0 0 | some q => .slice q.1 256 q.2), (15, match q with | none => .int .i64 2 | some q => .int .i64 0)])
      (fun q => wasI q (sealB k2 e2 s2 (p.drop j9)) ++ (OS a' c' X1 :: PY b7 p :: pts b4 (.cells [u8V k2, .int .u64 e2, .int .u64 s2].toArray 24) :: pts b3 (.cells [u8V x, .int .u64 e, .int .u64 s].toArray 24) :: L))
      wasOk ?_ ?_
    · have hpd : (p.drop j9).length = 220 - j9 := by rw [List.length_drop]; omega
      have hSeal2 : ∀ M, TriE Tryd.prog 8 #[.agg (mkL k2 e2 s2).toArray, .slice (some ⟨b7, if 220 = j9 then 0 else 0 + j9 * 1, none⟩) (220 - j9) (220 - j9)] (fun v M' => (v = .tuple #[.slice none 0 0, .int .i64 2] ∧ M' = PY b7 p :: M) ∨
          ∃ a' c', v = .tuple #[.slice a' 256 c', .int .i64 0] ∧ SomeA a' 256 ∧ M' = OS a' c' (sealB k2 e2 s2 (p.drop j9)) :: PY b7 p :: M) (PY b7 p :: M) := fun M => by
        have r : RdS 1 (some ⟨b7, if 220 = j9 then 0 else 0 + j9 * 1, none⟩) (p.drop j9).length ((p.drop j9).map u8V) (PY b7 p :: M) := by
          by_cases h : 220 = j9
          · subst h
            rw [hpd, show p.drop 220 = [] from List.drop_eq_nil_of_le (by omega)]
            exact RdS.zero
          · rw [if_neg h, hpd]
            have := RdS.sub (i := j9) (k := 220 - j9) (hRd M) (by omega)
            rw [List.take_of_length_le (by rw [List.length_drop, List.length_map]; omega), ← List.map_drop, show 0 + j9 = 0 + j9 * 1 by omega] at this
            exact this
        have q := mk_Seal k2 e2 s2 _ (220 - j9) (p.drop j9) (PY b7 p :: M) he2 hs2 (by omega) r
        have q := q.mono (Q' := fun v M' => (v = .tuple #[.slice none 0 0, .int .i64 2] ∧ M' = PY b7 p :: M) ∨
          ∃ a' c', v = .tuple #[.slice a' 256 c', .int .i64 0] ∧ SomeA a' 256 ∧ M' = OS a' c' (sealB k2 e2 s2 (p.drop j9)) :: PY b7 p :: M) (by
          have hl := sealB_len (k := k2) (e := e2) (s := s2) (b := p.drop j9) (by omega)
          rintro v M' (⟨h, rfl, rfl⟩ | ⟨_, h, _⟩ | ⟨_, _, a', c', rfl, s', hc', rfl⟩)
          · exact .inl ⟨rfl, rfl⟩
          · omega
          · rw [hl] at s' ⊢
            exact .inr ⟨a', c', rfl, s', rfl⟩)
        rw [hpd] at q
        exact q
      refine W.drawB #[0, 0, 0, 4, 14, 31, 63, 127, 127, 255, 1023] [OS a' c' X1, PY b7 p, pts b4 (.cells [u8V k2, .int .u64 e2, .int .u64 s2].toArray 24), pts b3 (.cells [u8V x, .int .u64 e, .int .u64 s].toArray 24)] L rfl (by kernel_rfl) (by kernel_rfl) (by kernel_rfl) ent ?_
      refine go ?_
      refine DB.q (v := .slice (some ⟨b7, if 220 = j9 then 0 else 0 + j9 * 1, none⟩) (220 - j9) (220 - j9)) rfl rfl hl ?_ ?_
      · exact SV.cutX (l := j9) (h := 220) rfl (cutAt.of rfl (by omega)) rfl (by omega) (by omega) eqq
      refine go ?_
      refine DB.callE (vs := [.agg (mkL k2 e2 s2).toArray, .slice (some ⟨b7, if 220 = j9 then 0 else 0 + j9 * 1, none⟩) (220 - j9) (220 - j9)]) Tryd.func8 rfl rfl rfl rfl hl hl (TriE.ent ent (hSeal2 (OS a' c' X1 :: pts b4 (.cells [u8V k2, .int .u64 e2, .int .u64 s2].toArray 24) :: pts b3 (.cells [u8V x, .int .u64 e, .int .u64 s].toArray 24) :: L))) ?_
      rintro v M (⟨rfl, rfl⟩ | ⟨a9, c9, rfl, s9, rfl⟩)
      · refine ⟨[], L, ent, ?_⟩
        refine go ?_
        exact ⟨_, Ent.refl _, ⟨none, ⟨rfl, rfl, trivial⟩, rfl, trivial, ent⟩⟩
      · refine ⟨[], OS a9 c9 (sealB k2 e2 s2 (p.drop j9)) :: L, ent, ?_⟩
        refine go ?_
        exact ⟨_, Ent.refl _, ⟨some (a9, c9), ⟨rfl, rfl, trivial⟩, rfl, s9, ent⟩⟩
    · rintro q bg5 hq
      refine goC ?_
      refine W.cut (σ := Unit) 38383394772764476296921088 rfl (fun _ => [(84, .bool false)]) (fun _ => wasI q (sealB k2 e2 s2 (p.drop j9)) ++ (OS a' c' X1 :: PY b7 p :: pts b4 (.cells [u8V k2, .int .u64 e2, .int .u64 s2].toArray 24) :: pts b3 (.cells [u8V x, .int .u64 e, .int .u64 s].toArray 24) :: L)) (fun _ => True) ?_ ?_
      · refine go ?_
        exact ⟨(), ⟨rfl, trivial⟩, rfl, trivial, Ent.refl _⟩
      rintro - bg6 -
      refine goC ?_
      refine W.cut (σ := Bool) 4913074530913852966005899264 rfl (fun t => [(91, .bool t)]) (fun _ => wasI q (sealB k2 e2 s2 (p.drop j9)) ++ (OS a' c' X1 :: PY b7 p :: pts b4 (.cells [u8V k2, .int .u64 e2, .int .u64 s2].toArray 24) :: pts b3 (.cells [u8V x, .int .u64 e, .int .u64 s].toArray 24) :: L)) (fun t => t = false → q ≠ none ∧ mkB x e s ≠ mkB k2 e2 s2) ?_ ?_
      · cases q with
        | none =>
          dsimp only [wasI, List.nil_append]
          refine go ?_
          exact ⟨true, ⟨rfl, trivial⟩, rfl, fun h => (by cases h), Ent.refl _⟩
        | some q =>
          dsimp only [wasI, List.cons_append, List.nil_append]
          refine go ?_
          refine WO.sv rfl ?_
          refine SV.eqlMk (k := k2) (e := e2) (s := s2) (k' := x) (e' := e) (s' := s) rfl rfl ?_
          by_cases heq : k2 = x ∧ e2 = e ∧ s2 = s
          · rw [decide_eq_true heq]
            refine go ?_
            exact ⟨true, ⟨rfl, trivial⟩, rfl, fun h => (by cases h), Ent.refl _⟩
          · rw [decide_eq_false heq]
            refine go ?_
            refine ⟨false, ⟨rfl, trivial⟩, rfl, fun _ => ⟨(by intro h; cases h), fun h => heq ?_⟩, Ent.refl _⟩
            obtain ⟨g1, g2, g3⟩ := mkB_inj he hs he2 hs2 h
            exact ⟨g1.symm, g2.symm, g3.symm⟩
      rintro t bg7 ht
      refine goC ?_
      refine W.cut (σ := Option Addr × Nat × Byt) 4951760157141521099596513280 rfl (fun w => [(14, .slice w.1 256 w.2.1)]) (fun w => OS w.1 w.2.1 w.2.2 :: OS a' c' X1 :: PY b7 p :: pts b3 (.cells [u8V x, .int .u64 e, .int .u64 s].toArray 24) :: L)
        (fun w => SomeA w.1 256 ∧ w.2.2.length = 256 ∧ ∃ w0, w.2.2.take 17 = w0 ∧ w.2.2.drop 239 = w0 ∧ mkB x e s ≠ w0) ?_ ?_
      · refine W.cond rfl (fun h => ?_) (fun h => ?_)
        · refine go ?_
          refine WO.sv rfl ?_
          refine SV.makeSlice (m := 256) rfl rfl (by decide) (by decide) ?_
          intro b14
          rw [show List.replicate 256 (Value.int .u8 0) = (List.replicate 256 (0 : UInt8)).map u8V by rw [List.map_replicate]; rfl]
          refine go ?_
          refine ⟨(some ⟨b14, 0, none⟩, 256, List.replicate 256 0), ⟨rfl, trivial⟩, rfl, ⟨fun _ => ⟨b14, rfl⟩, List.length_replicate, _, zero_marks.1, zero_marks.2, mkB_nz (mkR_ne hx).1⟩, ?_⟩
          dsimp only
          refine Ent.trans (B := Own 5 1 (.slice (some ⟨b14, 0, none⟩) 256 256) 256 ((List.replicate 256 (0 : UInt8)).map u8V) :: OS a' c' X1 :: PY b7 p :: pts b3 (.cells [u8V x, .int .u64 e, .int .u64 s].toArray 24) :: L) ?_ ?_
          · refine Ent.trans (B := pts b14 (.cells ((List.replicate 256 (0 : UInt8)).map u8V).toArray 5) :: OS a' c' X1 :: PY b7 p :: pts b3 (.cells [u8V x, .int .u64 e, .int .u64 s].toArray 24) :: L) ?_ (ent_own (sz := 1) (n := 256) (by simp))
            cases q <;> dsimp only [wasI, List.cons_append, List.nil_append] <;> exact ent
          · unfold OS
            rw [List.length_replicate]
            exact Ent.refl _
        · obtain ⟨h1, h2⟩ := ht (by rw [h])
          cases q with
          | none => exact absurd rfl h1
          | some q =>
            dsimp only [wasI, List.cons_append, List.nil_append]
            refine go ?_
            exact ⟨(q.1, q.2, sealB k2 e2 s2 (p.drop j9)), ⟨rfl, trivial⟩, rfl, ⟨hq, sealB_len (by rw [List.length_drop]; omega), _, sealB_take, sealB_end (by rw [List.length_drop]; omega), h2⟩, ent⟩
      clear ht hq
      rintro ⟨aw, cw, w⟩ bg8 ⟨sw, hw, w0, w1, w2, wne⟩
      dsimp only at sw hw w1 w2 ⊢
      obtain ⟨bw, rfl⟩ := sw (by decide)
      obtain ⟨bx, rfl⟩ := s' (by omega)
      refine W.ownCap (E := 5) (sz := 1) (n := X1.length) (xs := X1.map u8V) (show Tk _ (OS (some ⟨bx, 0, none⟩) c' X1) _ from tk) fun hcx => ?_
      refine W.ownCap (E := 5) (sz := 1) (n := w.length) (xs := w.map u8V) (show Tk _ (OS (some ⟨bw, 0, none⟩) cw w) _ from tk) fun hcw => ?_
      have rW : ∀ M, RdS 1 (some ⟨bw, 0, none⟩) 256 (w.map u8V) (OS (some ⟨bw, 0, none⟩) cw w :: M) := fun M => by
        have := OS.rd (a := some ⟨bw, 0, none⟩) (c := cw) (s := w) (R := M) Tk.here (fun _ => ⟨bw, rfl⟩)
        rwa [hw] at this
      have rX : ∀ M, RdS 1 (some ⟨bx, 0, none⟩) 256 (X1.map u8V) (OS (some ⟨bx, 0, none⟩) c' X1 :: M) := fun M => by
        have := OS.rd (a := some ⟨bx, 0, none⟩) (c := c') (s := X1) (R := M) Tk.here (fun _ => ⟨bx, rfl⟩)
        rwa [hX] at this
      have rXt : RdS 1 (some ⟨bx, 0, none⟩) at_ ((X1.take at_).map u8V) [OS (some ⟨bx, 0, none⟩) c' X1] := by
        have := RdS.take (k := at_) (rX []) (by omega)
        rwa [← List.map_take] at this
      have rWd : RdS 1 (some ⟨bw, 0 + at_ * 1, none⟩) (256 - at_) ((w.drop at_).map u8V) [OS (some ⟨bw, 0, none⟩) cw w] := by
        have := RdS.sub (i := at_) (k := 256 - at_) (rW []) (by omega)
        rwa [List.take_of_length_le (by rw [List.length_drop, List.length_map]; omega), ← List.map_drop, show 0 + at_ = 0 + at_ * 1 by omega] at this
      have hT : (X1.take at_ ++ w.drop at_).length = 256 := by rw [List.length_append, List.length_take, List.length_drop]; omega
      have hTl1 : (X1.take at_).length = at_ := by rw [List.length_take]; omega
      have hTl2 : (w.drop at_).length = 256 - at_ := by rw [List.length_drop]; omega
      have hA : rOK (X1.take at_ ++ w.drop at_) = true → X1.take at_ ++ w.drop at_ = w ∨ X1.take at_ ++ w.drop at_ = X1 := fun h =>
        torn_ok hX hw hX1 hX2 w1 w2 wne (by omega) (opOk_marks hT (rOK_iff.1 h).2)
      refine goC ?_
      refine go ?_
      refine W.drawB #[0, 0, 3, 7, 0, 0, 48, 112, 255, 511] [OS (some ⟨bw, 0, none⟩) cw w, OS (some ⟨bx, 0, none⟩) c' X1] (PY b7 p :: pts b3 (.cells [u8V x, .int .u64 e, .int .u64 s].toArray 24) :: L) rfl (by kernel_rfl) (by kernel_rfl) (by kernel_rfl) ent ?_
      refine go ?_
      refine DB.q (v := .slice (some ⟨bx, 0, none⟩) at_ c') rfl rfl hl ?_ ?_
      · refine SV.cut (l := 0) (h := at_) rfl rfl (cutAt.of rfl rfl) (by omega) (by omega) ?_
        intro off' ho
        rw [ho (.inr rfl)]
        exact eqq
      refine DB.q (v := strV (X1.take at_)) rfl rfl hl (SV.toStrR rfl (bs := X1.take at_) (RdS.ent ent rXt) eqq) ?_
      refine go ?_
      refine DB.q (v := .slice (some ⟨bw, 0 + at_ * 1, none⟩) (256 - at_) (cw - at_)) rfl rfl hl ?_ ?_
      · refine SV.cut (l := at_) (h := 256) rfl (cutAt.of rfl rfl) rfl (by omega) (by omega) ?_
        intro off' ho
        rw [ho (.inl (by omega))]
        exact eqq
      refine DB.q (v := strV (w.drop at_)) rfl rfl hl (SV.toStrR rfl (bs := w.drop at_) (RdS.ent ent rWd) eqq) ?_
      refine DB.q (v := strV (X1.take at_ ++ w.drop at_)) rfl rfl hl (SV.concat rfl rfl (by omega) eqq) ?_
      generalize X1.take at_ ++ w.drop at_ = T at *
      clear rXt rWd hTl1 hTl2
      refine go ?_
      refine ⟨OS (some ⟨bw, 0, none⟩) cw w :: OS (some ⟨bx, 0, none⟩) c' X1 :: PY b7 p :: pts b3 (.cells [u8V x, .int .u64 e, .int .u64 s].toArray 24) :: L, ent, ?_⟩
      refine go ?_
      refine WO.sv rfl ?_
      refine SV.toBytes (bs := T) rfl ?_
      intro bt ct hct
      refine go ?_
      refine WO.ent (M := OS (some ⟨bt, 0, none⟩) ct T :: OS (some ⟨bw, 0, none⟩) cw w :: OS (some ⟨bx, 0, none⟩) c' X1 :: PY b7 p :: pts b3 (.cells [u8V x, .int .u64 e, .int .u64 s].toArray 24) :: L) (Ent.refl _) ?_
      refine WO.callE (vs := [.slice (some ⟨bt, 0, none⟩) T.length ct]) Tryd.func12 rfl rfl rfl rfl (mk_OpenU (OS (some ⟨bt, 0, none⟩) ct T) (some ⟨bt, 0, none⟩) ct T _ (by omega) hct (OS.rd Tk.here (fun _ => ⟨bt, rfl⟩))) ?_
      rintro v M ⟨a19, c19, rfl, s19, eM⟩
      refine WO.ent eM ?_
      refine go ?_
      intro b17
      refine go ?_
      refine goC ?_
      refine W.cut (σ := Unit) 1427247692700767584199751141820964640053526528 rfl (fun _ => [(149, .bool false)]) (fun _ => OS (some ⟨bw, 0, none⟩) cw w :: L) (fun _ => True) ?_ ?_
      · refine W.drawB #[0, 1, 3, 7, 7, 23, 63, 127, 255, 511, 511, 1535, 4095, 8191, 16383, 32767, 32767, 98303, 262143, 524287, 1048575, 2097151, 4194303, 8388607, 8388607, 33554431, 67108863, 134217727, 268435455, 536870911, 268435455, 268435455, 3489660927, 7784628223, 17179869183, 34359738367, 68719476735, 137438953471] [OS a19 c19 (rB T), OS (some ⟨bw, 0, none⟩) cw w, OS (some ⟨bx, 0, none⟩) c' X1, PY b7 p, pts b17 (.cells [u8V (rK T), .int .u64 (rE T), .int .u64 (rQ T)].toArray 24), pts b3 (.cells [u8V x, .int .u64 e, .int .u64 s].toArray 24)] (OS (some ⟨bt, 0, none⟩) ct T :: L) rfl (by kernel_rfl) (by kernel_rfl) (by kernel_rfl) ent ?_
        by_cases ok : rOK T = true
        · have hz : rZ T = 0 := by unfold rZ; rw [ok]; rfl
          refine go ?_
          refine DB.q (v := strV w) rfl rfl hl (SV.toStrR rfl (bs := w) (RdS.ent ent (rW [])) eqq) ?_
          by_cases tw : T = w
          · refine DB.q (v := .bool false) rfl rfl hl (SV.neqSF (a := T) (b := w) rfl rfl tw eqq) ?_
            refine go ?_
            refine DB.q (v := strV X1) rfl rfl hl (SV.toStrR rfl (bs := X1) (OS.rd tk (fun _ => ⟨bx, rfl⟩)) eqq) ?_
            by_cases tx : T = X1
            · refine DB.q (v := .bool true) rfl rfl hl (SV.eqlST (a := T) (b := X1) rfl rfl tx eqq) ?_
              obtain ⟨hT1, hT2, hT3, hT4, hT5⟩ : rK T = x ∧ rE T = e ∧ rQ T = s ∧ rB T = p.take n ∧ rZ T = 0 := by rw [tx]; exact hXr
              refine go ?_
              refine DB.q (v := .bool (!true)) rfl rfl hl (by
                refine SV.neqMk (k := rK T) (e := rE T) (s := rQ T) (k' := x) (e' := e) (s' := s) rfl rfl ?_
                rw [decide_eq_true (show rK T = x ∧ rE T = e ∧ rQ T = s from ⟨hT1, hT2, hT3⟩)]
                exact eqq) ?_
              refine go ?_
              refine DB.q (v := strV (rB T)) rfl rfl hl (SV.toStrR rfl (bs := rB T) (OS.rd tk s19) eqq) ?_
              refine go ?_
              refine DB.q (v := .slice (some ⟨b7, 0, none⟩) n 220) rfl rfl hl ?_ ?_
              · refine SV.cut (l := 0) (h := n) rfl rfl (cutAt.of rfl rfl) (by omega) (by omega) ?_
                intro off' ho
                rw [ho (.inr rfl)]
                exact eqq
              refine DB.q (v := strV (p.take n)) rfl rfl hl (SV.toStrR rfl (bs := p.take n) (RdS.ent ent (hRn [])) eqq) ?_
              refine DB.q (v := .bool false) rfl rfl hl (SV.neqSF (a := rB T) (b := p.take n) rfl rfl hT4 eqq) ?_

              refine go ?_
              exact ⟨_, Ent.refl _, ⟨(), ⟨rfl, trivial⟩, rfl, trivial, ent⟩⟩
            · refine DB.q (v := .bool false) rfl rfl hl (SV.eqlSF (a := T) (b := X1) rfl rfl tx eqq) ?_
              refine go ?_
              exact ⟨_, Ent.refl _, ⟨(), ⟨rfl, trivial⟩, rfl, trivial, ent⟩⟩
          · have tx : T = X1 := (hA ok).resolve_left tw
            refine DB.q (v := .bool true) rfl rfl hl (SV.neqST (a := T) (b := w) rfl rfl tw eqq) ?_
            refine go ?_
            refine DB.q (v := strV X1) rfl rfl hl (SV.toStrR rfl (bs := X1) (OS.rd tk (fun _ => ⟨bx, rfl⟩)) eqq) ?_
            refine DB.q (v := .bool false) rfl rfl hl (SV.neqSF (a := T) (b := X1) rfl rfl tx eqq) ?_
            refine go ?_
            refine DB.q (v := strV X1) rfl rfl hl (SV.toStrR rfl (bs := X1) (OS.rd tk (fun _ => ⟨bx, rfl⟩)) eqq) ?_
            refine DB.q (v := .bool true) rfl rfl hl (SV.eqlST (a := T) (b := X1) rfl rfl tx eqq) ?_
            obtain ⟨hT1, hT2, hT3, hT4, hT5⟩ : rK T = x ∧ rE T = e ∧ rQ T = s ∧ rB T = p.take n ∧ rZ T = 0 := by rw [tx]; exact hXr
            refine go ?_
            refine DB.q (v := .bool (!true)) rfl rfl hl (by
              refine SV.neqMk (k := rK T) (e := rE T) (s := rQ T) (k' := x) (e' := e) (s' := s) rfl rfl ?_
              rw [decide_eq_true (show rK T = x ∧ rE T = e ∧ rQ T = s from ⟨hT1, hT2, hT3⟩)]
              exact eqq) ?_
            refine go ?_
            refine DB.q (v := strV (rB T)) rfl rfl hl (SV.toStrR rfl (bs := rB T) (OS.rd tk s19) eqq) ?_
            refine go ?_
            refine DB.q (v := .slice (some ⟨b7, 0, none⟩) n 220) rfl rfl hl ?_ ?_
            · refine SV.cut (l := 0) (h := n) rfl rfl (cutAt.of rfl rfl) (by omega) (by omega) ?_
              intro off' ho
              rw [ho (.inr rfl)]
              exact eqq
            refine DB.q (v := strV (p.take n)) rfl rfl hl (SV.toStrR rfl (bs := p.take n) (RdS.ent ent (hRn [])) eqq) ?_
            refine DB.q (v := .bool false) rfl rfl hl (SV.neqSF (a := rB T) (b := p.take n) rfl rfl hT4 eqq) ?_

            refine go ?_
            exact ⟨_, Ent.refl _, ⟨(), ⟨rfl, trivial⟩, rfl, trivial, ent⟩⟩
        · have hz : rZ T = 11 := by unfold rZ; rw [Bool.eq_false_iff.2 ok, if_pos hT]; rfl
          have tx : T ≠ X1 := fun h => ok (by rw [h]; exact hXo)
          refine go ?_
          refine DB.q (v := strV X1) rfl rfl hl (SV.toStrR rfl (bs := X1) (OS.rd tk (fun _ => ⟨bx, rfl⟩)) eqq) ?_
          refine DB.q (v := .bool false) rfl rfl hl (SV.eqlSF (a := T) (b := X1) rfl rfl tx eqq) ?_
          refine go ?_
          exact ⟨_, Ent.refl _, ⟨(), ⟨rfl, trivial⟩, rfl, trivial, ent⟩⟩
      rintro - bg9 -
      clear hA rX rW
      refine go ?_
      refine WO.callE (vs := [.slice (some ⟨bw, 0, none⟩) 256 cw]) Tryd.func14 rfl rfl rfl rfl (by
        have q := mk_Cover (OS (some ⟨bw, 0, none⟩) cw w) (some ⟨bw, 0, none⟩) cw w L (by omega) (OS.rd Tk.here (fun _ => ⟨bw, rfl⟩))
        rw [hw] at q
        exact q) ?_
      have hc3 : (w.set 0 3).length = 256 := by rw [List.length_set]; exact hw
      obtain ⟨hb1, hb2⟩ := bare_back hw
      obtain ⟨hcn, hcz⟩ := cover_no hw
      rintro v M (⟨h, _⟩ | ⟨_, a20, c20, rfl, s20, rfl⟩)
      · exact absurd rfl h
      refine WO.ownCap (E := 5) (sz := 1) (n := (w.set 0 3).length) (xs := (w.set 0 3).map u8V) (show Tk _ (OS a20 c20 (w.set 0 3)) _ from tk) fun hcap => ?_
      generalize w.set 0 3 = C at *
      refine go ?_
      refine WO.callE (vs := [.slice a20 C.length c20]) Tryd.func12 rfl rfl rfl rfl (mk_OpenU (OS a20 c20 C) a20 c20 C _ (by omega) hcap (OS.rd Tk.here s20)) ?_
      rintro v M ⟨a21, c21, rfl, s21, eM2⟩
      refine WO.ent eM2 ?_
      rw [hcz]
      refine go ?_
      intro b23
      refine go ?_
      refine WO.callE (vs := [.slice a20 C.length c20, u8V (w.getD 0 0)]) Tryd.func15 rfl rfl rfl rfl (TriE.ent ent (mk_Bare (OS a20 c20 C) a20 c20 C (w.getD 0 0) (OS (some ⟨bw, 0, none⟩) cw w :: L) (by omega) (OS.rd Tk.here s20))) ?_
      rintro v M (⟨h, _⟩ | ⟨_, h, _⟩ | ⟨_, _, a26, c26, rfl, s26, rfl⟩)
      · exact absurd hc3 h
      · exact absurd hb2 h
      rw [hb1] at s26 ⊢
      refine go ?_
      refine WO.sv rfl ?_
      refine SV.toStrR rfl (bs := w) (OS.rd tk s26) ?_
      refine go ?_
      refine WO.sv rfl ?_
      refine SV.toStrR rfl (bs := w) (by
        have := OS.rd (a := some ⟨bw, 0, none⟩) (c := cw) (s := w) (R := L) Tk.here (fun _ => ⟨bw, rfl⟩)
        rw [hw] at this
        exact RdS.ent ent this) ?_
      refine go ?_
      refine WO.sv rfl ?_
      refine SV.eqlST (a := w) (b := w) rfl rfl rfl ?_
      refine go ?_
      refine WO.callE (vs := []) Tryd.func9 rfl rfl rfl rfl (l8_one _) ?_
      rintro v M ⟨rfl, rfl⟩
      refine go ?_
      exact ⟨rfl, [_], ⟨Res.tmp rfl, trivial⟩, L, ent, rfl, rfl⟩
end Go.SL
