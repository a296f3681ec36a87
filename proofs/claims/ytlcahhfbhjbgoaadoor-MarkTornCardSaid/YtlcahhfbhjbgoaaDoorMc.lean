/- Layer 8: marks: trimming, cloning, reading. -/
import Derived.Test.YtlcahhfbhjbgoaaDoorMb
namespace Go.SL
open Go.Proofs
set_option linter.unusedVariables false
set_option maxRecDepth 10000
set_option maxHeartbeats 4000000
attribute [local irreducible] W WO SV OW SW Tri Ent Tk Has Src SrcK DA DB RdS Own

theorem sl_CloneB (a : Option Addr) (c : Nat) (s : Byt) (L : List HP) (hn : s.length ≤ 1000000) (r : RdS 1 a s.length (s.map u8V) L) :
    TriE Tryd.prog 30 #[.slice a s.length c] (fun v M => ∃ a' c', v = .slice a' s.length c' ∧ SomeA a' s.length ∧ M = OS a' c' s :: L) L := by
  unfold OS
  generalize hsl : s.length = n at *
  refine Tri.of (N := 8) (args := [.slice a n c]) Tryd.func30 rfl rfl rfl ?_
  cases a with
  | none =>
    have h0 : n = 0 := Classical.byContradiction fun h0 => by obtain ⟨b, off, e⟩ := r.at h0; cases e
    subst h0
    have hx : s = [] := List.eq_nil_of_length_eq_zero hsl
    subst hx
    refine go ?_
    exact ⟨rfl, [_], ⟨Res.tmp rfl, trivial⟩, _, Ent.ownNil (Ent.refl _), none, 0, rfl, fun h => absurd rfl h, rfl⟩
  | some a =>
    refine go ?_
    refine WO.sv rfl ?_
    refine SV.lit0 ?_
    intro b1
    refine go ?_
    refine WO.ent (ent_own (sz := 1) (n := 0) rfl) ?_
    refine WO.sv rfl ?_
    refine SV.append rfl rfl rfl tk (RdS.src r) (by rw [r.len]) (by simp [u8V, isCell]) (by omega) rfl ?_
    intro a' c' ha'
    rw [Nat.zero_add, List.nil_append] at *
    refine go ?_
    exact ⟨rfl, [_], ⟨Res.tmp rfl, trivial⟩, _, ent, a', c', rfl, ha', rfl⟩

/-- How many bytes are left of some bytes behind those that are c at the end. -/
def trimR (c : UInt8) : Byt → Nat → Nat
  | s, 0 => 0
  | s, n + 1 => if s.getD n 0 = c then trimR c s n else n + 1
theorem trimR_le (c : UInt8) (s : Byt) : ∀ n, trimR c s n ≤ n
  | 0 => Nat.le_refl _
  | n + 1 => by
    have := trimR_le c s n
    rw [trimR]; split <;> omega
theorem trimR_zero {c : UInt8} {s : Byt} : ∀ {n}, n ≤ s.length → (trimR c s n = 0 ↔ ∀ x ∈ s.take n, x = c)
  | 0, _ => by simp [trimR]
  | n + 1, h => by
    have hg : s.getD n 0 = s[n] := by simp [show n < s.length by omega]
    have ih := trimR_zero (c := c) (s := s) (n := n) (by omega)
    rw [trimR, hg, List.take_succ_eq_append_getElem (by omega)]
    by_cases e : s[n] = c
    · rw [if_pos e, ih]
      simp only [List.mem_append, List.mem_singleton, e]
      exact ⟨fun h x hx => hx.elim (h x) id, fun h x hx => h x (.inl hx)⟩
    · rw [if_neg e]
      exact ⟨fun h => absurd h (Nat.succ_ne_zero _), fun h => absurd (h s[n] (List.mem_append.2 (.inr (List.mem_singleton.2 rfl)))) e⟩
theorem by_trimR (b o cp n : Nat) (c : UInt8) (s : Byt) (L : List HP) (hn : n = s.length) (hb : n ≤ 1000000) (hcp : n ≤ cp) (r : RdS 1 (some ⟨b, o, none⟩) n (s.map u8V) L) :
    TriE Tryd.prog 59 #[.slice (some ⟨b, o, none⟩) n cp, u8V c] (fun v M => v = .slice (some ⟨b, o, none⟩) (trimR c s n) cp ∧ M = L) L := by
  refine Tri.of (N := 24) (args := [.slice (some ⟨b, o, none⟩) n cp, u8V c]) Tryd.func59 rfl rfl rfl ?_
  have hlt := c.toNat_lt
  refine go ?_
  refine W.loopS 8388577 rfl (fun i : Nat => [(0, .slice (some ⟨b, o, none⟩) i cp)]) (fun _ => L) (fun i => i ≤ n ∧ trimR c s i = trimR c s n) (fun i => i) n ⟨rfl, trivial⟩ ⟨Nat.le_refl _, rfl⟩ (Ent.app (Ent.refl _)) ?_
  rintro i bg ⟨hi, ht⟩
  cases i with
  | zero =>
    rw [← ht]
    refine go ?_
    exact ⟨rfl, [_], ⟨Res.tmp rfl, trivial⟩, _, ent, rfl, rfl⟩
  | succ i =>
    have hg : (s.map u8V)[i]? = some (u8V (s.getD i 0)) := by simp [show i < s.length by omega]
    have hlt2 := (s.getD i 0).toNat_lt
    by_cases e : s.getD i 0 = c
    · rw [trimR, if_pos e] at ht
      refine go ?_
      refine WO.sv rfl ?_
      refine SV.loadR i rfl rds (by omega) hg ?_
      rw [e]
      refine go ?_
      refine WO.sv rfl ?_
      refine SV.cut (l := 0) (h := i) rfl rfl (cutAt.of rfl (by omega)) (Nat.zero_le _) (by omega) ?_
      intro off' ho
      rw [ho (.inr rfl)]
      refine go ?_
      exact ⟨i, ⟨rfl, trivial⟩, rfl, ⟨by omega, ht⟩, Nat.lt_succ_self _, Ent.app (Ent.refl _)⟩
    · rw [trimR, if_neg e] at ht
      have e' : (s.getD i 0).toNat ≠ c.toNat := fun h => e (UInt8.toNat_inj.1 h)
      rw [← ht]
      refine go ?_
      refine WO.sv rfl ?_
      refine SV.loadR i rfl rds (by omega) hg ?_
      dsimp only [u8V]
      refine go ?_
      exact ⟨rfl, [_], ⟨Res.tmp rfl, trivial⟩, _, ent, rfl, rfl⟩
end Go.SL
