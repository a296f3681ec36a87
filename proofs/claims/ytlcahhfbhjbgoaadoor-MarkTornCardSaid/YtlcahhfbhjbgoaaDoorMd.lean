/- Layer 8: marks: whether all bytes are 0. -/
import Derived.Test.YtlcahhfbhjbgoaaDoorMc
namespace Go.SL
open Go.Proofs
set_option linter.unusedVariables false
set_option maxRecDepth 10000
set_option maxHeartbeats 4000000
attribute [local irreducible] W WO SV OW SW Tri Ent Tk Has Src SrcK DA DB RdS Own

/-- From the left, of bytes the last of which stays. -/
theorem by_trimL (b o cp n : Nat) (c : UInt8) (s : Byt) (L : List HP) (hn : n ≤ s.length) (hb : s.length ≤ 1000000) (hcp : n ≤ cp) (r : RdS 1 (some ⟨b, o, none⟩) s.length (s.map u8V) L) (hl2 : n ≠ 0 → s.getD (n - 1) 0 ≠ c) :
    TriE Tryd.prog 58 #[.slice (some ⟨b, o, none⟩) n cp, u8V c] (fun v M => (∃ a' m c', v = .slice a' m c' ∧ (m = 0 ↔ n = 0)) ∧ M = L) L := by
  refine Tri.of (N := 21) (args := [.slice (some ⟨b, o, none⟩) n cp, u8V c]) Tryd.func58 rfl rfl rfl ?_
  have hlt := c.toNat_lt
  by_cases h0 : n = 0
  · subst h0
    refine go ?_
    refine W.loopS 131041 rfl (fun i : Nat => [(0, .slice (some ⟨b, o, none⟩) 0 cp)]) (fun _ => L) (fun i => True) (fun i => 0) 0 ⟨rfl, trivial⟩ trivial (Ent.app (Ent.refl _)) ?_
    intro i bg _
    refine go ?_
    exact ⟨rfl, [_], ⟨Res.tmp rfl, trivial⟩, _, ent, ⟨_, _, _, rfl, Iff.rfl⟩, rfl⟩
  refine go ?_
  refine W.loopS 131041 rfl (fun i : Nat => [(0, .slice (some ⟨b, o + i, none⟩) (n - i) (cp - i))]) (fun _ => L) (fun i => i < n) (fun i => n - i) 0 ⟨rfl, trivial⟩ (by omega) (Ent.app (Ent.refl _)) ?_
  intro i bg hi
  have hg : (s.map u8V)[i]? = some (u8V (s.getD i 0)) := by simp [show i < s.length by omega]
  have hlt2 := (s.getD i 0).toNat_lt
  by_cases e : s.getD i 0 = c
  · have hi2 : i + 1 < n := by
      rcases Nat.lt_or_ge (i + 1) n with h | h
      · exact h
      · obtain rfl : i = n - 1 := by omega
        exact absurd e (hl2 h0)
    refine go ?_
    refine WO.sv rfl ?_
    refine SV.loadR i rfl rds (by omega) hg ?_
    rw [e]
    refine go ?_
    refine WO.sv rfl ?_
    refine SV.cut (l := 1) (h := n - i) rfl (cutAt.of rfl rfl) rfl (by omega) (by omega) ?_
    intro off' ho
    rw [ho (.inl (by omega))]
    refine go ?_
    exact ⟨i + 1, ⟨by show Value.slice _ _ _ = _; congr 1, trivial⟩, rfl, hi2, by omega, Ent.app (Ent.refl _)⟩
  · have e' : (s.getD i 0).toNat ≠ c.toNat := fun h => e (UInt8.toNat_inj.1 h)
    refine go ?_
    refine WO.sv rfl ?_
    refine SV.loadR i rfl rds (by omega) hg ?_
    dsimp only [u8V]
    refine go ?_
    exact ⟨rfl, [_], ⟨Res.tmp rfl, trivial⟩, _, ent, ⟨_, _, _, rfl, by omega⟩, rfl⟩
theorem trimR_last {c : UInt8} {s : Byt} : ∀ {n}, trimR c s n ≠ 0 → s.getD (trimR c s n - 1) 0 ≠ c
  | 0, h => absurd rfl h
  | n + 1, h => by
    rw [trimR] at h ⊢
    by_cases e : s.getD n 0 = c
    · rw [if_pos e] at h ⊢; exact trimR_last h
    · rw [if_neg e]; exact e
theorem mk_zero (b o cp : Nat) (s : Byt) (L : List HP) (hb : s.length ≤ 1000000) (hcp : s.length ≤ cp) (r : RdS 1 (some ⟨b, o, none⟩) s.length (s.map u8V) L) :
    TriE Tryd.prog 29 #[.slice (some ⟨b, o, none⟩) s.length cp] (fun v M => v = .bool (decide (∀ x ∈ s, x = 0)) ∧ M = L) L := by
  have htrim : TriE Tryd.prog 47 #[.slice (some ⟨b, o, none⟩) s.length cp, .string ⟨([0] : List UInt8).toArray⟩] (fun v M => (∃ a' m c', v = .slice a' m c' ∧ (m = 0 ↔ ∀ x ∈ s, x = 0)) ∧ M = L) L := by
    have hz := trimR_zero (c := 0) (s := s) (n := s.length) (Nat.le_refl _)
    rw [List.take_length] at hz
    have hle := trimR_le 0 s s.length
    refine Tri.of (N := 42) (args := [.slice (some ⟨b, o, none⟩) s.length cp, .string ⟨([0] : List UInt8).toArray⟩]) Tryd.func47 rfl rfl rfl ?_
    by_cases h0 : s.length = 0
    · refine go ?_
      refine ⟨rfl, [_], ⟨Res.tmp rfl, trivial⟩, L, ent, ⟨_, _, _, rfl, ?_⟩, rfl⟩
      have : s = [] := List.eq_nil_of_length_eq_zero h0
      subst this
      simp
    refine go ?_
    refine WO.sv rfl ?_
    refine SV.eqlSF rfl rfl (by decide) ?_
    refine go ?_
    refine WO.sv rfl ?_
    refine SV.indexS (s := [0]) (c := 0) rfl rfl (by decide) rfl ?_
    refine go ?_
    refine W.drawB #[0, 0, 2, 7, 0, 16, 63, 127] [] L rfl (by kernel_rfl) (by kernel_rfl) (by kernel_rfl) (Ent.refl _) ?_
    refine go ?_
    refine DB.q (v := u8V 0) rfl rfl hl (SV.indexS (s := [0]) (c := 0) rfl rfl (by decide) rfl eqq) ?_
    refine go ?_
    refine DB.callE (vs := [.slice (some ⟨b, o, none⟩) s.length cp, u8V 0]) Tryd.func59 rfl rfl rfl rfl hl hl (by_trimR b o cp s.length 0 s L rfl hb hcp r) ?_
    rintro v M ⟨rfl, rfl⟩
    refine ⟨[], _, Ent.refl _, ?_⟩
    refine go ?_
    refine DB.q (v := u8V 0) rfl rfl hl (SV.indexS (s := [0]) (c := 0) rfl rfl (by decide) rfl eqq) ?_
    refine go ?_
    refine DB.callE (vs := [.slice (some ⟨b, o, none⟩) (trimR 0 s s.length) cp, u8V 0]) Tryd.func58 rfl rfl rfl rfl hl hl (by_trimL b o cp (trimR 0 s s.length) 0 s _ hle hb (by omega) r trimR_last) ?_
    rintro v M ⟨⟨a', m, c', rfl, hm⟩, rfl⟩
    refine ⟨[], _, Ent.refl _, ?_⟩
    refine go ?_
    refine ⟨_, Ent.refl _, ?_⟩
    refine go ?_
    exact ⟨rfl, [_], ⟨Res.tmp rfl, trivial⟩, _, ent, ⟨_, _, _, rfl, hm.trans hz⟩, rfl⟩
  refine Tri.of (N := 7) (args := [.slice (some ⟨b, o, none⟩) s.length cp]) Tryd.func29 rfl rfl rfl ?_
  refine go ?_
  refine WO.callE (vs := [.slice (some ⟨b, o, none⟩) s.length cp, .string ⟨([0] : List UInt8).toArray⟩]) Tryd.func47 rfl rfl rfl rfl htrim ?_
  rintro v M ⟨⟨a', m, c', rfl, hm⟩, rfl⟩
  by_cases e : m = 0
  · rw [decide_eq_true (hm.1 e)]
    refine go ?_
    exact ⟨rfl, [_], ⟨Res.tmp rfl, trivial⟩, _, ent, rfl, rfl⟩
  · rw [decide_eq_false (fun h => e (hm.2 h))]
    refine go ?_
    exact ⟨rfl, [_], ⟨Res.tmp rfl, trivial⟩, _, ent, rfl, rfl⟩
end Go.SL
