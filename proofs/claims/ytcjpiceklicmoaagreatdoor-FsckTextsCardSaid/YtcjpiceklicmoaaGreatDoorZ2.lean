/- Layer 8: marks: the plain law: what is open is sealed as it was. -/
import Derived.Test.YtcjpiceklicmoaaGreatDoorZ1
namespace Go.SL
set_option linter.unusedVariables false
set_option linter.unusedSimpArgs false

theorem sh_div (N A P D c : Nat) (hP : 0 < P) (hN : 0 < N) (hc : c < N) : (A * N + c) * P / (P * (N * D)) = A * (P * N) / (P * (N * D)) := by
  rw [Nat.mul_comm (A * N + c) P, Nat.mul_left_comm A P N, Nat.mul_div_mul_left _ _ hP, Nat.mul_div_mul_left _ _ hP, ← Nat.div_div_eq_div_mul, ← Nat.div_div_eq_div_mul, Nat.mul_comm A N, Nat.mul_add_div hN, Nat.div_eq_of_lt hc, Nat.add_zero, Nat.mul_div_cancel_left _ hN]
theorem byteOf_nbe {s : Byt} {i : Nat} : ∀ k, k ≤ 8 → ∀ j, j < k → byteOf (nbe s i k * 2 ^ (8 * (8 - k))) j = s.getD (i + j) 0
  | 0, _, j, hj => absurd hj (Nat.not_lt_zero _)
  | k + 1, hk, j, hj => by
    have hc := (s.getD (i + k) 0).toNat_lt
    rw [nbe]
    by_cases e : j = k
    · subst e
      unfold byteOf
      rw [show 8 * (8 - (j + 1)) = 8 * (7 - j) by omega, Nat.mul_div_cancel _ (Nat.two_pow_pos _)]
      apply UInt8.toNat_inj.1
      rw [UInt8.toNat_ofNat']
      omega
    · have ih := byteOf_nbe (s := s) (i := i) k (by omega) j (by omega)
      rw [← ih]
      unfold byteOf
      have e1 : 8 * (7 - j) = 8 * (8 - (k + 1)) + 8 * (k - j) := by omega
      have e2 : 8 * (8 - k) = 8 * (8 - (k + 1)) + 8 := by omega
      have e3 : 8 * (k - j) = 8 + 8 * (k - j - 1) := by omega
      congr 1
      have p1 : 2 ^ (8 * (8 - k)) = 2 ^ (8 * (8 - (k + 1))) * 256 := by rw [e2, Nat.pow_add]
      have p2 : 2 ^ (8 * (7 - j)) = 2 ^ (8 * (8 - (k + 1))) * (256 * 2 ^ (8 * (k - j - 1))) := by rw [e1, e3, Nat.pow_add 2 (8 * (8 - (k + 1))), Nat.pow_add 2 8]
      rw [p1, p2]
      exact sh_div 256 _ _ _ _ (Nat.two_pow_pos _) (by omega) hc
theorem beN_nbe {s : Byt} {i : Nat} (h : i + 8 ≤ s.length) : beN (nbe s i 8) 8 = (s.drop i).take 8 := by
  apply List.ext_getElem
  · simp; omega
  · intro j h1 h2
    have hj : j < 8 := by simpa using h1
    have q := byteOf_nbe (s := s) (i := i) 8 (Nat.le_refl _) j hj
    rw [show 8 * (8 - 8) = 0 from rfl, Nat.pow_zero, Nat.mul_one] at q
    simp only [beN, List.getElem_map, List.getElem_range, List.getElem_take, List.getElem_drop]
    rw [q]
    simp [show i + j < s.length by omega]
theorem mkB_take {s : Byt} (h : 17 ≤ s.length) : mkB (s.getD 0 0) (nbe s 1 8) (nbe s 9 8) = s.take 17 := by
  unfold mkB
  rw [beN_nbe (by omega), beN_nbe (by omega)]
  match s, h with
  | x :: t, h =>
    simp only [List.getD_cons_zero, List.drop_succ_cons, List.drop_zero, List.take_succ_cons, List.singleton_append, List.cons_append]
    congr 1
    exact (List.take_add (l := t) (i := 8) (j := 8)).symm
theorem part_join {s : Byt} (i k : Nat) : (s.drop i).take k ++ s.drop (i + k) = s.drop i := by
  rw [← List.drop_drop]; exact List.take_append_drop k (s.drop i)
theorem seal_open {s : Byt} (h : s.length = 256) (ok : opOk s = true) : sealB (s.getD 0 0) (nbe s 1 8) (nbe s 9 8) (opB s) = s := by
  unfold opOk at ok
  simp only [Bool.and_eq_true, decide_eq_true_eq] at ok
  obtain ⟨⟨⟨hk, he1, he2, he3⟩, hn⟩, hz⟩ := ok
  have hTl : (opT s).length = 17 := by simp [opT]; omega
  have hT : opT s = s.drop 239 := List.take_of_length_le (by rw [List.length_drop, h]; decide)
  have m1 := mkB_take (s := s) (by omega)
  have m2 := mkB_take (s := opT s) (by omega)
  have hTk : (opT s).take 17 = opT s := List.take_of_length_le (by rw [hTl]; decide)
  rw [← he1, ← he2, ← he3, m1, hTk, hT] at m2
  have hBl : (opB s).length = opN s := by simp [opB]; omega
  have z : opZ s = List.replicate (220 - opN s) 0 := List.eq_replicate_iff.2 ⟨by simp [opZ]; omega, hz⟩
  have h17 : [0, UInt8.ofNat (opN s)] = (s.drop 17).take 2 := by
    have hc := (s.getD 17 0).toNat_lt
    have hd := (s.getD 18 0).toNat_lt
    have e0 : s.getD 17 0 = 0 := by
      apply UInt8.toNat_inj.1
      show _ = 0
      unfold opN at hn
      omega
    have e1 : UInt8.ofNat (opN s) = s.getD 18 0 := by
      apply UInt8.toNat_inj.1
      rw [UInt8.toNat_ofNat', opN, e0]
      show (0 * 256 + _) % 256 = _
      omega
    rw [e1, ← e0]
    apply List.ext_getElem
    · simp; omega
    · intro j a b
      have hj : j < 2 := by simpa using a
      have hj2 : j = 0 ∨ j = 1 := by omega
      rcases hj2 with rfl | rfl
      · simp [show 17 < s.length by omega]
      · simp [show 18 < s.length by omega]
  have k1 : opZ s ++ s.take 17 = s.drop (19 + opN s) := by
    have q := part_join (s := s) (19 + opN s) (220 - opN s)
    rw [show 19 + opN s + (220 - opN s) = 239 by omega, ← m2] at q
    exact q
  have k2 : opB s ++ s.drop (19 + opN s) = s.drop 19 := part_join 19 (opN s)
  have k3 := part_join (s := s) 17 2
  unfold sealB
  rw [hBl, m1, ← z, h17, k1, k2, k3, List.take_append_drop]
end Go.SL

/- Layer 8: marks: the document's answer to any bytes; covering and baring. -/
namespace Go.SL
open Go.Proofs
set_option linter.unusedVariables false
set_option linter.unusedSimpArgs false
set_option maxRecDepth 10000
set_option maxHeartbeats 4000000
attribute [local irreducible] W WO SV OW SW Tri Ent Tk Has Src SrcK DA DB RdS Own

/-- What bytes are opened as: whether they are, the mark's parts, the bytes, what is answered. -/
def rOK (s : Byt) : Bool := decide (s.length = 256) && opOk s
def rK (s : Byt) : UInt8 := bif rOK s then s.getD 0 0 else 0
def rE (s : Byt) : Nat := bif rOK s then nbe s 1 8 else 0
def rQ (s : Byt) : Nat := bif rOK s then nbe s 9 8 else 0
def rB (s : Byt) : Byt := bif rOK s then opB s else []
def rZ (s : Byt) : Int := bif rOK s then 0 else if s.length = 256 then 11 else 2
theorem rOK_iff {s : Byt} : rOK s = true ↔ s.length = 256 ∧ opOk s = true := by unfold rOK; simp
theorem mk_OpenU (X : HP) (a : Option Addr) (c : Nat) (s : Byt) (R : List HP) (hb : s.length ≤ 9223372036854775807) (hcp : s.length ≤ c) (r : RdS 1 a s.length (s.map u8V) [X]) :
    TriE Tryz.prog 163 #[.slice a s.length c] (fun v M => ∃ a' c', v = .tuple #[.agg (mkL (rK s) (rE s) (rQ s)).toArray, .slice a' (rB s).length c', .int .i64 (rZ s)] ∧ SomeA a' (rB s).length ∧ Ent M (OS a' c' (rB s) :: X :: R)) (X :: R) := by
  refine (mk_Open X a c s R hb hcp r).mono ?_
  rintro v M (⟨h, rfl, rfl⟩ | ⟨h, ho, rfl, rfl⟩ | ⟨h, ho, a', c', rfl, ha, rfl⟩)
  · have e : rOK s = false := by unfold rOK; rw [decide_eq_false h, Bool.false_and]
    unfold rK rE rQ rB rZ
    rw [e, if_neg h]
    exact ⟨none, 0, rfl, fun h => absurd rfl h, Ent.ownNil (Ent.refl _)⟩
  · have e : rOK s = false := by unfold rOK; rw [ho, Bool.and_false]
    unfold rK rE rQ rB rZ
    rw [e, if_pos h]
    exact ⟨none, 0, rfl, fun h => absurd rfl h, Ent.ownNil (Ent.refl _)⟩
  · have e : rOK s = true := rOK_iff.2 ⟨h, ho⟩
    unfold rK rE rQ rB rZ
    rw [e]
    exact ⟨a', c', rfl, ha, Ent.refl _⟩

theorem opOk_opN {s : Byt} (ok : opOk s = true) : mkR (s.getD 0 0) = true ∧ opN s ≤ 220 := by
  unfold opOk at ok
  simp only [Bool.and_eq_true, decide_eq_true_eq] at ok
  exact ⟨ok.1.1.1, ok.1.2⟩
end Go.SL

/- Layer 8: marks: the plain law of a torn block. -/
namespace Go.SL
set_option linter.unusedVariables false
set_option linter.unusedSimpArgs false

theorem opOk_marks {s : Byt} (h : s.length = 256) (ok : opOk s = true) : s.take 17 = s.drop 239 := by
  unfold opOk at ok
  simp only [Bool.and_eq_true, decide_eq_true_eq] at ok
  obtain ⟨⟨⟨hk, he1, he2, he3⟩, hn⟩, hz⟩ := ok
  have hTl : (opT s).length = 17 := by simp [opT]; omega
  have hT : opT s = s.drop 239 := List.take_of_length_le (by rw [List.length_drop, h]; decide)
  have m1 := mkB_take (s := s) (by omega)
  have m2 := mkB_take (s := opT s) (by omega)
  have hTk : (opT s).take 17 = opT s := List.take_of_length_le (by rw [hTl]; decide)
  rw [← he1, ← he2, ← he3, m1, hTk, hT] at m2
  exact m2
theorem mkB_inj {k k' : UInt8} {e s e' s' : Nat} (he : e < 18446744073709551616) (hs : s < 18446744073709551616) (he' : e' < 18446744073709551616) (hs' : s' < 18446744073709551616) (h : mkB k e s = mkB k' e' s') : k = k' ∧ e = e' ∧ s = s' := by
  obtain ⟨a1, a2, a3⟩ := mkB_read k e s [] he hs
  obtain ⟨b1, b2, b3⟩ := mkB_read k' e' s' [] he' hs'
  rw [h] at a1 a2 a3
  exact ⟨a1.symm.trans b1, a2.symm.trans b2, a3.symm.trans b3⟩
theorem sealB_take {k : UInt8} {e s : Nat} {b : Byt} : (sealB k e s b).take 17 = mkB k e s := by
  unfold sealB
  rw [List.take_append_of_le_length (by simp), List.take_of_length_le (by simp)]
theorem sealB_end {k : UInt8} {e s : Nat} {b : Byt} (h : b.length ≤ 220) : (sealB k e s b).drop 239 = mkB k e s := by
  have e1 : sealB k e s b = (mkB k e s ++ [0, UInt8.ofNat b.length] ++ b ++ List.replicate (220 - b.length) 0) ++ mkB k e s := by simp [sealB]
  have e2 : (mkB k e s ++ [0, UInt8.ofNat b.length] ++ b ++ List.replicate (220 - b.length) 0).length = 239 := by simp; omega
  rw [e1, ← e2, List.drop_left]
/-- A block's first bytes, ahead of another one's, with other marks. -/
theorem torn_ok {x w m0 w0 : Byt} {n : Nat} (hx : x.length = 256) (hw : w.length = 256) (x1 : x.take 17 = m0) (x2 : x.drop 239 = m0) (w1 : w.take 17 = w0) (w2 : w.drop 239 = w0) (ne : m0 ≠ w0) (hn : n ≤ 256)
    (h : (x.take n ++ w.drop n).take 17 = (x.take n ++ w.drop n).drop 239) : x.take n ++ w.drop n = w ∨ x.take n ++ w.drop n = x := by
  have hl : (x.take n).length = n := by rw [List.length_take]; omega
  by_cases h1 : n < 17
  · left
    have e1 : (x.take n ++ w.drop n).take 17 = x.take n ++ (w.take 17).drop n := by
      rw [List.take_append, hl, List.take_of_length_le (by omega), List.drop_take]
    have e2 : (x.take n ++ w.drop n).drop 239 = w.drop 239 := by
      rw [List.drop_append, hl, List.drop_eq_nil_of_le (by omega), List.nil_append, List.drop_drop]
      congr 1; omega
    rw [e1, e2, w2, w1] at h
    have e3 : x.take n = w0.take n := by
      have := congrArg (List.take n) h
      rw [List.take_append_of_le_length (by omega), List.take_of_length_le (by omega)] at this
      exact this
    have e4 : w0.take n = w.take n := by rw [← w1, List.take_take, Nat.min_eq_left (by omega)]
    rw [e3, e4, List.take_append_drop]
  · by_cases h2 : n ≤ 239
    · exfalso
      have e1 : (x.take n ++ w.drop n).take 17 = m0 := by
        rw [List.take_append_of_le_length (by omega), List.take_take, Nat.min_eq_left (by omega), x1]
      have e2 : (x.take n ++ w.drop n).drop 239 = w0 := by
        rw [List.drop_append, hl, List.drop_eq_nil_of_le (by omega), List.nil_append, List.drop_drop, ← w2]
        congr 1; omega
      exact ne (by rw [← e1, ← e2, h])
    · right
      have e1 : (x.take n ++ w.drop n).take 17 = m0 := by
        rw [List.take_append_of_le_length (by omega), List.take_take, Nat.min_eq_left (by omega), x1]
      have e2 : (x.take n ++ w.drop n).drop 239 = (x.take n).drop 239 ++ w.drop n := by
        rw [List.drop_append_of_le_length (by omega)]
      have e3 : (x.take n).drop 239 = m0.take (n - 239) := by rw [List.drop_take, x2]
      rw [e1, e2, e3] at h
      have hm : m0.length = 17 := by rw [← x1]; simp; omega
      have e4 : w.drop n = m0.drop (n - 239) := by
        have := congrArg (List.drop (n - 239)) h
        have e : (m0.take (n - 239)).drop (n - 239) = [] := List.drop_eq_nil_of_le (by rw [List.length_take]; omega)
        rw [List.drop_append, e, List.nil_append, List.length_take, hm, show n - 239 - min (n - 239) 17 = 0 by omega, List.drop_zero] at this
        exact this.symm
      have e5 : m0.drop (n - 239) = x.drop n := by rw [← x2, List.drop_drop, show 239 + (n - 239) = n by omega]
      rw [e4, e5, List.take_append_drop]
/-- A covered block is none. -/
theorem cover_no {w : Byt} (hw : w.length = 256) : rOK (w.set 0 3) = false ∧ rZ (w.set 0 3) = 11 := by
  have h0 : (w.set 0 3).getD 0 0 = 3 := by
    cases w with
    | nil => simp at hw
    | cons a t => rfl
  have h1 : opOk (w.set 0 3) = false := by
    unfold opOk mkR
    rw [h0]
    rfl
  have h2 : rOK (w.set 0 3) = false := by unfold rOK; rw [h1, Bool.and_false]
  refine ⟨h2, ?_⟩
  unfold rZ
  rw [h2, List.length_set, if_pos hw]
  rfl
theorem bare_back {w : Byt} (hw : w.length = 256) : (w.set 0 3).set 0 (w.getD 0 0) = w ∧ (w.set 0 3).getD 0 0 = 3 := by
  cases w with
  | nil => simp at hw
  | cons a t => exact ⟨rfl, rfl⟩
theorem zero_marks : (List.replicate 256 (0 : UInt8)).take 17 = List.replicate 17 0 ∧ (List.replicate 256 (0 : UInt8)).drop 239 = List.replicate 17 0 := by
  exact ⟨by rw [List.take_replicate]; rfl, by rw [List.drop_replicate]⟩
theorem mkB_nz {k : UInt8} {e s : Nat} (h : k.toNat ≠ 0) : mkB k e s ≠ List.replicate 17 0 := by
  intro q
  have this : (mkB k e s).getD 0 0 = (List.replicate 17 (0 : UInt8)).getD 0 0 := by rw [q]
  have e1 : (mkB k e s).getD 0 0 = k := by simp [mkB]
  rw [e1] at this
  exact h (by rw [this]; rfl)
end Go.SL

/- Layer 9: heads: what they are, and the small functions. -/
namespace Go.SL
open Go.Proofs
set_option linter.unusedVariables false
set_option linter.unusedSimpArgs false
set_option maxRecDepth 10000
set_option maxHeartbeats 4000000
attribute [local irreducible] W WO SV OW SW Tri Ent Tk Has Src SrcK DA DB RdS Own

structure Hd where
  gen : Nat
  epoch : Nat
  pos : Int
  seq : Nat
  log : Int
abbrev hdL (g e : Nat) (p : Int) (s : Nat) (l : Int) : List Value := [.int .u64 g, .int .u64 e, .int .i64 p, .int .u64 s, .int .i64 l]
def Hd.L (h : Hd) : List Value := hdL h.gen h.epoch h.pos h.seq h.log
def Hd.zero : Hd := ⟨0, 0, 0, 0, 0⟩
structure Hd.Fit (h : Hd) : Prop where
  g : h.gen < 18446744073709551616
  e : h.epoch < 18446744073709551616
  s : h.seq < 18446744073709551616
  p : -9223372036854775808 ≤ h.pos ∧ h.pos ≤ 9223372036854775807
  l : -9223372036854775808 ≤ h.log ∧ h.log ≤ 9223372036854775807
/-- Whether one may be, on so many blocks. -/
def HdR (h : Hd) (b : Int) : Prop := 1 ≤ h.gen ∧ h.gen ≤ 4611686018427387904 ∧ 1 ≤ h.epoch ∧ h.epoch ≤ 4611686018427387904 ∧ 1 ≤ h.seq ∧ h.seq ≤ 4611686018427387904 ∧ 3 ≤ h.log ∧ 6 ≤ b ∧ h.log ≤ b - 3 ∧ 0 ≤ h.pos ∧ h.pos < h.log
instance (h : Hd) (b : Int) : Decidable (HdR h b) := by unfold HdR; infer_instance
/-- The bytes of one, its block. -/
def Hd.enc (h : Hd) : Byt := encN h.epoch ++ (encN h.pos.toNat ++ (encN h.seq ++ encN h.log.toNat))
def Hd.put (h : Hd) : Byt := sealB 9 h.gen h.gen h.enc
/-- What is read of a block, and whether it is to the end. -/
def hdRead (s : Byt) : Hd × Nat :=
  let n1 := (LI.mk (rB s) 0).num
  let n2 := n1.1.small 4096
  let n3 := n2.1.num
  let n4 := n3.1.small 4096
  (⟨rE s, n1.2, n2.2, n3.2, n4.2⟩, n4.1.fin)
def hdOk (s : Byt) (b : Int) : Bool := rOK s && decide (rK s = 9 ∧ rE s = rQ s) && decide ((hdRead s).2 = 0) && decide (HdR (hdRead s).1 (min b 4096))
def hdOf (s : Byt) (b : Int) : Hd := bif hdOk s b then (hdRead s).1 else Hd.zero

theorem h9_within (v : Nat) (L : List HP) : TriE Tryz.prog 158 #[.int .u64 v] (fun r M => r = .bool (decide (1 ≤ v ∧ v ≤ 4611686018427387904)) ∧ M = L) L := by
  refine Tri.of (N := 9) (args := [.int .u64 v]) Tryz.func158 rfl rfl rfl ?_
  by_cases h1 : 1 ≤ v
  · by_cases h2 : v ≤ 4611686018427387904
    · refine go ?_
      exact ⟨rfl, [_], ⟨Res.tmp rfl, trivial⟩, L, ent, by rw [decide_eq_true ⟨h1, h2⟩]; rfl, rfl⟩
    · refine go ?_
      exact ⟨rfl, [_], ⟨Res.tmp rfl, trivial⟩, L, ent, by rw [decide_eq_false (fun g => h2 g.2)]; rfl, rfl⟩
  · refine go ?_
    exact ⟨rfl, [_], ⟨Res.tmp rfl, trivial⟩, L, ent, by rw [decide_eq_false (fun g => h1 g.1)]; rfl, rfl⟩
theorem h9_slot (h : Hd) (L : List HP) : TriE Tryz.prog 127 #[.agg h.L.toArray] (fun r M => r = .int .i64 ((h.gen % 2 : Nat) : Int) ∧ M = L) L := by
  obtain ⟨g, e, p, s, l⟩ := h
  refine Tri.of (N := 7) (args := [.agg (hdL g e p s l).toArray]) Tryz.func127 rfl rfl rfl ?_
  refine go ?_
  intro b1
  refine go ?_
  exact ⟨rfl, [_], ⟨Res.tmp rfl, trivial⟩, L, ent, rfl, rfl⟩
theorem h9_Right (h : Hd) (b : Int) (L : List HP) (hb : -9223372036854775808 ≤ b ∧ b ≤ 9223372036854775807) : TriE Tryz.prog 118 #[.agg h.L.toArray, .int .i64 b] (fun r M => r = .bool (decide (HdR h b)) ∧ M = L) L := by
  obtain ⟨g, e, p, s, l⟩ := h
  refine Tri.of (N := 47) (args := [.agg (hdL g e p s l).toArray, .int .i64 b]) Tryz.func118 rfl rfl rfl ?_
  dsimp only [hdL]
  refine go ?_
  intro b2
  refine go ?_
  refine WO.callE (vs := [.int .u64 g]) Tryz.func158 rfl rfl rfl rfl (h9_within g _) ?_
  rintro v M ⟨rfl, rfl⟩
  by_cases h0 : 1 ≤ g ∧ g ≤ 4611686018427387904
  rotate_left
  · rw [decide_eq_false h0]
    refine go ?_
    exact ⟨rfl, [_], ⟨Res.tmp rfl, trivial⟩, L, ent, by rw [decide_eq_false (show ¬HdR ⟨g, e, p, s, l⟩ b from by unfold HdR; dsimp only; omega)]; rfl, rfl⟩
  rw [decide_eq_true h0]
  refine go ?_
  refine WO.callE (vs := [.int .u64 e]) Tryz.func158 rfl rfl rfl rfl (h9_within e _) ?_
  rintro v M ⟨rfl, rfl⟩
  by_cases h1 : 1 ≤ e ∧ e ≤ 4611686018427387904
  rotate_left
  · rw [decide_eq_false h1]
    refine go ?_
    exact ⟨rfl, [_], ⟨Res.tmp rfl, trivial⟩, L, ent, by rw [decide_eq_false (show ¬HdR ⟨g, e, p, s, l⟩ b from by unfold HdR; dsimp only; omega)]; rfl, rfl⟩
  rw [decide_eq_true h1]
  refine go ?_
  refine WO.callE (vs := [.int .u64 s]) Tryz.func158 rfl rfl rfl rfl (h9_within s _) ?_
  rintro v M ⟨rfl, rfl⟩
  by_cases h2 : 1 ≤ s ∧ s ≤ 4611686018427387904
  rotate_left
  · rw [decide_eq_false h2]
    refine go ?_
    exact ⟨rfl, [_], ⟨Res.tmp rfl, trivial⟩, L, ent, by rw [decide_eq_false (show ¬HdR ⟨g, e, p, s, l⟩ b from by unfold HdR; dsimp only; omega)]; rfl, rfl⟩
  rw [decide_eq_true h2]
  by_cases t0 : 3 ≤ l
  rotate_left
  · refine go ?_
    exact ⟨rfl, [_], ⟨Res.tmp rfl, trivial⟩, L, ent, by rw [decide_eq_false (show ¬HdR ⟨g, e, p, s, l⟩ b from by unfold HdR; dsimp only; omega)]; rfl, rfl⟩
  by_cases t1 : 6 ≤ b
  rotate_left
  · refine go ?_
    exact ⟨rfl, [_], ⟨Res.tmp rfl, trivial⟩, L, ent, by rw [decide_eq_false (show ¬HdR ⟨g, e, p, s, l⟩ b from by unfold HdR; dsimp only; omega)]; rfl, rfl⟩
  by_cases t2 : l ≤ b - 3
  rotate_left
  · refine go ?_
    exact ⟨rfl, [_], ⟨Res.tmp rfl, trivial⟩, L, ent, by rw [decide_eq_false (show ¬HdR ⟨g, e, p, s, l⟩ b from by unfold HdR; dsimp only; omega)]; rfl, rfl⟩
  by_cases t3 : 0 ≤ p
  rotate_left
  · refine go ?_
    exact ⟨rfl, [_], ⟨Res.tmp rfl, trivial⟩, L, ent, by rw [decide_eq_false (show ¬HdR ⟨g, e, p, s, l⟩ b from by unfold HdR; dsimp only; omega)]; rfl, rfl⟩
  by_cases t4 : p < l
  rotate_left
  · refine go ?_
    exact ⟨rfl, [_], ⟨Res.tmp rfl, trivial⟩, L, ent, by rw [decide_eq_false (show ¬HdR ⟨g, e, p, s, l⟩ b from by unfold HdR; dsimp only; omega)]; rfl, rfl⟩
  refine go ?_
  exact ⟨rfl, [_], ⟨Res.tmp rfl, trivial⟩, L, ent, by rw [decide_eq_true (show HdR ⟨g, e, p, s, l⟩ b from by unfold HdR; dsimp only; omega)]; rfl, rfl⟩
end Go.SL

/- Layer 9: heads: their blocks, and what is read of a block. -/
namespace Go.SL
open Go.Proofs
set_option linter.unusedVariables false
set_option linter.unusedSimpArgs false
set_option maxRecDepth 10000
set_option maxHeartbeats 4000000
attribute [local irreducible] W WO SV OW SW Tri Ent Tk Has Src SrcK DA DB RdS Own

theorem Hd.enc_len (h : Hd) (fit : h.Fit) : h.enc.length ≤ 220 := by
  have h1 := encN_len fit.e
  have h2 := encN_len (v := h.pos.toNat) (by have := fit.p; omega)
  have h3 := encN_len fit.s
  have h4 := encN_len (v := h.log.toNat) (by have := fit.l; omega)
  unfold Hd.enc
  simp only [List.length_append]
  omega
theorem mkR9 : mkR 9 = true := rfl
theorem h9_Put (h : Hd) (L : List HP) (fit : h.Fit) : TriE Tryz.prog 159 #[.agg h.L.toArray] (fun r M =>
    (¬HdR h 4096 ∧ r = .tuple #[.slice none 0 0, .int .i64 2] ∧ M = L) ∨ (HdR h 4096 ∧ ∃ a c, r = .tuple #[.slice a h.put.length c, .int .i64 0] ∧ SomeA a h.put.length ∧ M = OS a c h.put :: L)) L := by
  have hel := h.enc_len fit
  have fp := fit.p
  have fl := fit.l
  have hg := fit.g
  have he := fit.e
  have hs := fit.s
  have hRi := fun L => h9_Right h 4096 L (by decide)
  have eput : h.put = sealB 9 h.gen h.gen h.enc := rfl
  have eenc : ([] : Byt) ++ [h.epoch, h.pos.toNat, h.seq, h.log.toNat].flatMap encN = h.enc := by simp [Hd.enc]
  have hpl : h.put.length = 256 := sealB_len hel
  have hpR : HdR h 4096 → 0 ≤ h.pos ∧ 0 ≤ h.log := by unfold HdR; intro g; omega
  obtain ⟨g, e, p, s, l⟩ := h
  refine Tri.of (N := 29) (args := [.agg (hdL g e p s l).toArray]) Tryz.func159 rfl rfl rfl ?_
  dsimp only [hdL]
  dsimp only at hg he hs fp fl
  refine go ?_
  intro b1
  refine go ?_
  refine WO.callE (vs := [.agg (hdL g e p s l).toArray, .int .i64 4096]) Tryz.func118 rfl rfl rfl rfl (hRi _) ?_
  rintro v M ⟨rfl, rfl⟩
  by_cases hr : HdR ⟨g, e, p, s, l⟩ 4096
  rotate_left
  · rw [decide_eq_false hr]
    refine go ?_
    exact ⟨rfl, [_, _], ⟨Res.tmp rfl, Res.tmp rfl, trivial⟩, L, ent, .inl ⟨hr, rfl, rfl⟩⟩
  rw [decide_eq_true hr]
  have h0 := hpR hr
  dsimp only at h0 eenc
  have epz : p = ((p.toNat : Nat) : Int) := by omega
  have elz : l = ((l.toNat : Nat) : Int) := by omega
  refine go ?_
  refine WO.sv rfl ?_
  refine SV.lit rfl rfl rfl parts rfl nl ?_
  intro b18
  rw [show [Value.int .u64 e, .int .u64 p, .int .u64 s, .int .u64 l] = [e, p.toNat, s, l.toNat].map u64V by simp only [List.map_cons, List.map_nil, u64V]; rw [← epz, ← elz]]
  refine go ?_
  refine WO.callE (vs := [.slice none ([] : Byt).length 0, .slice (some ⟨b18, 0, none⟩) [e, p.toNat, s, l.toNat].length 4]) Tryz.func185 rfl rfl rfl rfl
    (l1_Put none 0 [] (some ⟨b18, 0, none⟩) 4 [e, p.toNat, s, l.toNat] _ (by simp) (by simp) (by simp; omega) RdS.nil (RdS.all (sz := 1) (n := 4) rfl)) ?_
  rintro v M ⟨a2, c2, rfl, s2, rfl⟩
  rw [eenc] at s2 ⊢
  refine go ?_
  refine WO.callE (vs := [.agg (mkL 9 g g).toArray, .slice a2 (Hd.enc ⟨g, e, p, s, l⟩).length c2]) Tryz.func182 rfl rfl rfl rfl (mk_Seal 9 g g a2 c2 (Hd.enc ⟨g, e, p, s, l⟩) _ hg hg (by omega) (OS.rd Tk.here s2)) ?_
  rintro v M (⟨h, _⟩ | ⟨_, h, _⟩ | ⟨_, _, a3, c3, rfl, s3, _, rfl⟩)
  · rw [mkR9] at h; cases h
  · omega
  refine go ?_
  exact ⟨rfl, [_, _], ⟨Res.tmp rfl, Res.tmp rfl, trivial⟩, _, ent, .inr ⟨hr, a3, c3, rfl, s3, rfl⟩⟩
end Go.SL

/- Layer 9: heads: what is read of a block, walked. -/
namespace Go.SL
open Go.Proofs
set_option linter.unusedVariables false
set_option linter.unusedSimpArgs false
set_option maxRecDepth 10000
set_option maxHeartbeats 4000000
attribute [local irreducible] W WO SV OW SW Tri Ent Tk Has Src SrcK DA DB RdS Own

theorem LI.small_len (i : LI) (m : Nat) : (i.small m).1.b.length ≤ i.b.length := by
  unfold LI.small
  split
  · simp [LI.no]
  · exact i.num_len
theorem LI.small_le (i : LI) (m : Nat) : (i.small m).2 ≤ m := by
  unfold LI.small
  split
  · exact Nat.zero_le _
  · rename_i h
    by_cases h0 : i.num.1.bad = 0
    · have : ¬m < i.num.2 := fun g => h ⟨h0, g⟩
      omega
    · rw [i.num_bad h0]; exact Nat.zero_le _
theorem rB_len (s : Byt) : (rB s).length ≤ 256 := by
  unfold rB
  cases h : rOK s with
  | false => simp
  | true =>
    have := (rOK_iff.1 h).1
    simp [opB]
    omega
theorem rE_lt (s : Byt) : rE s < 18446744073709551616 := by
  unfold rE
  cases rOK s
  · show 0 < _; decide
  · exact nbe_64 s 1
end Go.SL

/- Layer 9: heads: what the program reads of a block, walked. -/
namespace Go.SL
open Go.Proofs
set_option linter.unusedVariables false
set_option linter.unusedSimpArgs false
set_option maxRecDepth 10000
set_option maxHeartbeats 4000000
attribute [local irreducible] W WO SV OW SW Tri Ent Tk Has Src SrcK DA DB RdS Own

theorem h9_Of (X : HP) (a : Option Addr) (c : Nat) (s : Byt) (b : Int) (R : List HP) (hb : -9223372036854775808 ≤ b ∧ b ≤ 9223372036854775807) (hs : s.length ≤ 9223372036854775807) (hc : s.length ≤ c) (r : RdS 1 a s.length (s.map u8V) [X]) :
    TriE Tryz.prog 126 #[.slice a s.length c, .int .i64 b] (fun v M => v = .tuple #[.agg (hdOf s b).L.toArray, .bool (hdOk s b)] ∧ M = X :: R) (X :: R) := by
  have e0 : hdOk s b = (rOK s && decide (rK s = 9 ∧ rE s = rQ s) && decide ((hdRead s).2 = 0) && decide (HdR (hdRead s).1 (min b 4096))) := rfl
  have no : hdOk s b = false → .tuple #[.agg (hdL 0 0 0 0 0).toArray, .bool false] = Value.tuple #[.agg (hdOf s b).L.toArray, .bool (hdOk s b)] := by
    intro h; unfold hdOf; rw [h]; rfl
  have yes : hdOk s b = true → .tuple #[.agg (hdRead s).1.L.toArray, .bool true] = Value.tuple #[.agg (hdOf s b).L.toArray, .bool (hdOk s b)] := by
    intro h; unfold hdOf; rw [h]; rfl
  have hRd : hdRead s = (⟨rE s, (LI.mk (rB s) 0).num.2, ((LI.mk (rB s) 0).num.1.small 4096).2, ((LI.mk (rB s) 0).num.1.small 4096).1.num.2, (((LI.mk (rB s) 0).num.1.small 4096).1.num.1.small 4096).2⟩, (((LI.mk (rB s) 0).num.1.small 4096).1.num.1.small 4096).1.fin) := rfl
  have hl0 := rB_len s
  have hOp := fun R => mk_OpenU X a c s R hs hc r
  have hN1 := fun p L => l1_Number p ⟨rB s, 0⟩ L (by dsimp only; omega)
  have l1 := (LI.mk (rB s) 0).num_len
  dsimp only at l1
  generalize (LI.mk (rB s) 0).num = n1 at *
  have hS2 := fun p L => l1_Small p n1.1 4096 L (by omega) (by decide)
  have l2 := n1.1.small_len 4096
  generalize n1.1.small 4096 = n2 at *
  have hN3 := fun p L => l1_Number p n2.1 L (by omega)
  have l3 := n2.1.num_len
  generalize n2.1.num = n3 at *
  have hS4 := fun p L => l1_Small p n3.1 4096 L (by omega) (by decide)
  generalize n3.1.small 4096 = n4 at *
  have hE := fun p L => l1_End p n4.1 L
  rw [hRd] at e0 yes
  dsimp only [Hd.L] at e0 yes
  have hRt := fun (bb : Int) (L : List HP) (h : -9223372036854775808 ≤ bb ∧ bb ≤ 9223372036854775807) => h9_Right ⟨rE s, n1.2, n2.2, n3.2, n4.2⟩ bb L h
  clear hRd
  have hzt : rOK s = true → rZ s = 0 := by intro h; unfold rZ; rw [h]; rfl
  have hzf : rOK s = false → rZ s ≠ 0 := by
    intro h; unfold rZ; rw [h]
    show (if s.length = 256 then (11 : Int) else 2) ≠ 0
    split <;> decide
  generalize n4.1.fin = fz at *
  generalize rOK s = ok at *
  generalize rK s = k at *
  generalize rE s = e at *
  generalize rQ s = q at *
  generalize rB s = bs at *
  generalize rZ s = z at *
  have hmin : -9223372036854775808 ≤ min b 4096 ∧ min b 4096 ≤ 9223372036854775807 := by omega
  refine Tri.of (N := 57) (args := [.slice a s.length c, .int .i64 b]) Tryz.func126 rfl rfl rfl ?_
  refine go ?_
  intro b4
  refine go ?_
  refine WO.callE (vs := [.slice a s.length c]) Tryz.func163 rfl rfl rfl rfl (TriE.ent ent (hOp (pts b4 (.cells (hdL 0 0 0 0 0).toArray 137) :: R))) ?_
  rintro v M ⟨a7, c7, rfl, s7, eM⟩
  refine WO.ent eM ?_
  refine go ?_
  intro b6
  cases ok with
  | false =>
    have hz := hzf rfl
    refine go ?_
    exact ⟨rfl, [_, _], ⟨Res.cell rfl le0 nl, Res.tmp rfl, trivial⟩, X :: R, ent, no (by rw [e0]; rfl), rfl⟩
  | true =>
  obtain rfl := hzt rfl
  refine go ?_
  refine WO.sv rfl ?_
  refine SV.neqMk (k := k) (e := e) (s := q) (k' := 9) (e' := e) (s' := e) rfl rfl ?_
  by_cases hke : k = 9 ∧ e = q
  rotate_left
  · rw [decide_eq_false (show ¬(k = 9 ∧ e = e ∧ q = e) from fun g => hke ⟨g.1, g.2.2.symm⟩)]
    refine go ?_
    exact ⟨rfl, [_, _], ⟨Res.cell rfl le0 nl, Res.tmp rfl, trivial⟩, X :: R, ent, no (by rw [e0, decide_eq_false hke]; rfl), rfl⟩
  rw [decide_eq_true (show k = 9 ∧ e = e ∧ q = e from ⟨hke.1, rfl, hke.2.symm⟩)]
  rw [decide_eq_true hke] at e0
  refine go ?_
  refine WO.sv rfl ?_
  refine SV.toStrR rfl (bs := bs) (OS.rd tk s7) ?_
  refine go ?_
  refine WO.callE (vs := [strV bs]) Tryz.func164 rfl rfl rfl rfl (l1_Read bs _) ?_
  rintro v M ⟨p, rfl, rfl⟩
  refine go ?_
  refine W.drawB #[0, 1, 0, 4, 0, 28, 63, 0, 255] [pts b6 (.cells [u8V k, .int .u64 e, .int .u64 q].toArray 223)] (LIn p ⟨bs, 0⟩ :: pts b4 (.cells (hdL 0 0 0 0 0).toArray 137) :: X :: R) rfl (by kernel_rfl) (by kernel_rfl) (by kernel_rfl) ent ?_
  refine go ?_
  refine DB.callE (vs := [.pointer (some ⟨p, 0, none⟩)]) Tryz.func165 rfl rfl rfl rfl hl hl (TriE.ent ent (hN1 p (pts b6 (.cells [u8V k, .int .u64 e, .int .u64 q].toArray 223) :: pts b4 (.cells (hdL 0 0 0 0 0).toArray 137) :: X :: R))) ?_
  rintro v M ⟨rfl, rfl⟩
  refine ⟨[], LIn p n1.1 :: pts b4 (.cells (hdL 0 0 0 0 0).toArray 137) :: X :: R, ent, ?_⟩
  refine go ?_
  refine DB.callE (vs := [.pointer (some ⟨p, 0, none⟩), .int .i64 4096]) Tryz.func166 rfl rfl rfl rfl hl hl (TriE.ent ent (hS2 p (pts b6 (.cells [u8V k, .int .u64 e, .int .u64 q].toArray 223) :: pts b4 (.cells (hdL 0 0 0 0 0).toArray 137) :: X :: R))) ?_
  rintro v M ⟨rfl, rfl⟩
  refine ⟨[], LIn p n2.1 :: pts b4 (.cells (hdL 0 0 0 0 0).toArray 137) :: X :: R, ent, ?_⟩
  refine go ?_
  refine DB.alloc rfl ?_
  intro b10
  refine go ?_
  refine DB.v rfl rfl rfl hl hl ?_
  refine SV.store rfl rfl cel rfl rfl rfl frz le0 nl ?_
  refine ⟨[], pts b10 (.cells (hdL e n1.2 n2.2 0 0).toArray 137) :: LIn p n2.1 :: pts b4 (.cells (hdL 0 0 0 0 0).toArray 137) :: X :: R, ent, ?_⟩
  refine go ?_
  refine ⟨LIn p n2.1 :: pts b10 (.cells (hdL e n1.2 n2.2 0 0).toArray 137) :: pts b6 (.cells [u8V k, .int .u64 e, .int .u64 q].toArray 223) :: pts b4 (.cells (hdL 0 0 0 0 0).toArray 137) :: X :: R, ent, ?_⟩
  refine go ?_
  refine WO.callE (vs := [.pointer (some ⟨p, 0, none⟩)]) Tryz.func165 rfl rfl rfl rfl (hN3 p _) ?_
  rintro v M ⟨rfl, rfl⟩
  refine go ?_
  refine WO.callE (vs := [.pointer (some ⟨p, 0, none⟩), .int .i64 4096]) Tryz.func166 rfl rfl rfl rfl (hS4 p _) ?_
  rintro v M ⟨rfl, rfl⟩
  refine go ?_
  refine WO.callE (vs := [.pointer (some ⟨p, 0, none⟩)]) Tryz.func167 rfl rfl rfl rfl (hE p _) ?_
  rintro v M ⟨rfl, rfl⟩
  by_cases hf : fz = 0
  rotate_left
  · refine go ?_
    exact ⟨rfl, [_, _], ⟨Res.cell rfl le0 nl, Res.tmp rfl, trivial⟩, X :: R, ent, no (by rw [e0, decide_eq_false hf]; rfl), rfl⟩
  rw [decide_eq_true hf] at e0
  refine go ?_
  refine WO.callE (vs := [.agg (hdL e n1.2 n2.2 n3.2 n4.2).toArray, .int .i64 (min b 4096)]) Tryz.func118 rfl rfl rfl rfl (hRt (min b 4096) _ hmin) ?_
  rintro v M ⟨rfl, rfl⟩
  by_cases hR : HdR ⟨e, n1.2, n2.2, n3.2, n4.2⟩ (min b 4096)
  · rw [decide_eq_true hR] at e0 ⊢
    refine go ?_
    exact ⟨rfl, [_, _], ⟨Res.cell rfl le0 nl, Res.tmp rfl, trivial⟩, X :: R, ent, yes e0, rfl⟩
  · rw [decide_eq_false hR] at e0 ⊢
    refine go ?_
    exact ⟨rfl, [_, _], ⟨Res.cell rfl le0 nl, Res.tmp rfl, trivial⟩, X :: R, ent, no e0, rfl⟩
end Go.SL

/- Layer 7: a device made; slices repeated and cloned. -/
namespace Go.SL
open Go.Proofs
set_option linter.unusedVariables false
set_option linter.unusedSimpArgs false
set_option maxRecDepth 10000
attribute [local irreducible] W WO SV OW SW Tri Ent Tk Has Src SrcK DA DB RdS Own

theorem u64bits : IntKind.bits .u64 = 64 := rfl
theorem u64_low {x : Nat} (hx : x < 4294967296) : IntKind.wrap .u64 ((((x : Int) % 2 ^ IntKind.bits .u64).toNat &&& ((4294967295 : Int) % 2 ^ IntKind.bits .u64).toNat : Nat) : Int) = x := by
  have e1 : ((x : Int) % 2 ^ IntKind.bits .u64).toNat = x := by rw [u64bits]; omega
  have e2 : ((4294967295 : Int) % 2 ^ IntKind.bits .u64).toNat = 2 ^ 32 - 1 := by rw [u64bits]; decide
  rw [e1, e2, Nat.and_two_pow_sub_one_eq_mod, Nat.mod_eq_of_lt (by omega)]
  exact u64w (by omega) (by omega)
theorem u64_hi (x : Nat) : (x : Int).fdiv (2 ^ (min (32 : Int).toNat (IntKind.bits .u64))) = ((x / 4294967296 : Nat) : Int) := by
  rw [u64bits, show min (32 : Int).toNat 64 = 32 from rfl, Int.fdiv_eq_ediv_of_nonneg _ (by decide)]
  norm_cast
theorem u64_low' (z : Int) {x : Nat} (hx : x < 4294967296) (h : z = x) : IntKind.wrap .u64 (((z % 2 ^ IntKind.bits .u64).toNat &&& ((4294967295 : Int) % 2 ^ IntKind.bits .u64).toNat : Nat) : Int) = x := by subst h; exact u64_low hx
theorem u64_hi' (z : Int) (x : Nat) (h : z = x) : z.fdiv (2 ^ (min (32 : Int).toNat (IntKind.bits .u64))) = ((x / 4294967296 : Nat) : Int) := by subst h; exact u64_hi x
theorem tup2 {k l : IntKind} {a b c d : Int} (h : a = c) (h2 : b = d) : retV [.int k a, .int l b] = .tuple #[.int k c, .int l d] := by rw [h, h2]; rfl
theorem f_Mul64 (x y : Nat) (L : List HP) (hx : x < 4294967296) (hy : y < 4294967296) :
    TriE Tryz.prog 156 #[.int .u64 x, .int .u64 y] (fun v M => v = .tuple #[.int .u64 0, .int .u64 ((x * y : Nat) : Int)] ∧ M = L) L := by
  have hp : x * y < 4294967296 * 4294967296 := Nat.mul_lt_mul'' hx hy
  refine Tri.of (N := 51) (args := [.int .u64 x, .int .u64 y]) Tryz.func156 rfl rfl rfl ?_
  refine go ?_
  refine WO.sv rfl ?_
  refine SV.band rfl rfl (u64_low hx) ?_
  refine go ?_
  refine WO.sv rfl ?_
  refine SV.shr rfl rfl (by decide) (u64_hi x) ?_
  rw [Nat.div_eq_of_lt hx]
  refine go ?_
  refine WO.sv rfl ?_
  refine SV.band rfl rfl (u64_low hy) ?_
  refine go ?_
  refine WO.sv rfl ?_
  refine SV.shr rfl rfl (by decide) (u64_hi y) ?_
  rw [Nat.div_eq_of_lt hy]
  refine go ?_
  obtain ⟨p, hpe⟩ : ∃ p, x * y = p := ⟨_, rfl⟩
  have hpi : (x : Int) * y = p := by rw [← hpe]; norm_cast
  rw [hpe] at hp
  rw [hpe, hpi]
  refine WO.sv rfl ?_
  refine SV.shr rfl rfl (by decide) (u64_hi p) ?_
  have hq : p / 4294967296 < 4294967296 := by omega
  generalize p / 4294967296 = q at hq ⊢
  refine go ?_
  refine WO.sv rfl ?_
  refine SV.band rfl rfl (u64_low' _ hq (by omega)) ?_
  refine go ?_
  refine WO.sv rfl ?_
  refine SV.shr rfl rfl (by decide) (u64_hi' _ q (by omega)) ?_
  rw [Nat.div_eq_of_lt hq]
  refine go ?_
  refine WO.sv rfl ?_
  refine SV.shr rfl rfl (by decide) (u64_hi' _ q (by omega)) ?_
  rw [Nat.div_eq_of_lt hq]
  refine go ?_
  refine ⟨rfl, [_, _], ⟨Res.tmp rfl, Res.tmp rfl, trivial⟩, L, ent, ?_, rfl⟩
  refine tup2 ?_ ?_
  · simp
  · exact hpi
theorem f_Mul (x y : Nat) (L : List HP) (hx : x < 4294967296) (hy : y < 4294967296) :
    TriE Tryz.prog 109 #[.int .u64 x, .int .u64 y] (fun v M => v = .tuple #[.int .u64 0, .int .u64 ((x * y : Nat) : Int)] ∧ M = L) L := by
  refine Tri.of (N := 30) (args := [.int .u64 x, .int .u64 y]) Tryz.func109 rfl rfl rfl ?_
  refine go ?_
  refine WO.callE (vs := [.int .u64 x, .int .u64 y]) Tryz.func156 rfl rfl rfl rfl (f_Mul64 x y _ hx hy) ?_
  rintro v M ⟨rfl, rfl⟩
  refine go ?_
  exact ⟨rfl, [_, _], ⟨Res.tmp rfl, Res.tmp rfl, trivial⟩, _, ent, rfl, rfl⟩

theorem lput_rep {v z : Value} (n m k : Nat) (h : n + k ≤ n + m) : lput (List.replicate n v ++ List.replicate m z) n (List.replicate k v) = List.replicate (n + k) v ++ List.replicate (m - k) z := by
  have key : ∀ n, lput (List.replicate n v ++ List.replicate m z) n (List.replicate k v) = List.replicate n v ++ lput (List.replicate m z) 0 (List.replicate k v) := by
    intro n
    induction n with
    | zero => simp
    | succ n ih =>
      cases k with
      | zero => simp [lput_nil]
      | succ k => rw [List.replicate_succ, List.replicate_succ, List.cons_append, lput, ← List.replicate_succ, ih, List.cons_append]
  have key2 : ∀ m k, k ≤ m → lput (List.replicate m z) 0 (List.replicate k v) = List.replicate k v ++ List.replicate (m - k) z := by
    intro m
    induction m with
    | zero => intro k h; have : k = 0 := by omega
              subst this; rfl
    | succ m ih =>
      intro k h
      cases k with
      | zero => simp [lput_nil]
      | succ k => rw [List.replicate_succ, List.replicate_succ, lput, ih k (by omega), List.cons_append]; congr 3; omega
  rw [key, key2 _ _ (by omega), ← List.append_assoc, List.replicate_append_replicate]
theorem sl_Repeat (a c n : Nat) (s : Byt) (L : List HP) (h1 : 1 ≤ n) (h2 : n ≤ 100000) (r : RdS 1 (some ⟨a, 0, none⟩) 1 [strV s] L) :
    TriE Tryz.prog 58 #[.slice (some ⟨a, 0, none⟩) 1 c, .int .i64 n] (fun v M => ∃ b : Nat, v = .slice (some ⟨b, 0, none⟩) n n ∧ M = Own 9 1 (.slice (some ⟨b, 0, none⟩) n n) n (List.replicate n (strV s)) :: L) L := by
  refine Tri.of (N := 48) (args := [.slice (some ⟨a, 0, none⟩) 1 c, .int .i64 n]) Tryz.func58 rfl rfl rfl ?_
  refine go ?_
  refine WO.callE (vs := [.int .u64 (1 : Nat), .int .u64 n]) Tryz.func109 rfl rfl rfl rfl (f_Mul 1 n _ (by decide) (by omega)) ?_
  rintro v M ⟨rfl, hM⟩
  rw [hM, Nat.one_mul]
  refine go ?_
  refine WO.sv rfl ?_
  refine SV.makeSlice rfl (m := n) rfl (by omega) (by omega) ?_
  intro b
  refine go ?_
  refine WO.sv rfl ?_
  refine SV.copyP rfl rfl (RdS.srcK (RdS.cons r)) rfl (by simp) (.inl (Nat.le_refl _)) (l' := List.replicate 1 (strV s) ++ List.replicate (n - 1) (strV [])) ?_ (by simp; omega) rfl ?_
  · rw [show min 1 n = 1 by omega]
    simp only [Nat.one_mul, List.take_succ_cons, List.take_zero, List.length_cons, List.length_nil, List.drop_replicate]
    rfl
  rw [show min 1 n = 1 by omega]
  refine go ?_
  refine W.loopS 140720308486400 rfl (fun k : Nat => [(8, .int .i64 k)]) (fun k => pts b (.cells (List.replicate k (strV s) ++ List.replicate (n - k) (strV [])).toArray 9) :: L) (fun k => 1 ≤ k ∧ k ≤ n) (fun k => n - k) 1 ⟨rfl, trivial⟩ ⟨by omega, by omega⟩ (Ent.app ent) ?_
  intro k bg ⟨hk1, hk2⟩
  refine go ?_
  refine WO.sv rfl ?_
  refine SV.lssC rfl rfl ?_ ?_
  · intro hlt
    refine go ?_
    have hlen : (List.replicate k (strV s) ++ List.replicate (n - k) (strV [])).length = n := by simp; omega
    refine W.drawB #[0, 0, 0, 6, 0, 0, 48, 126, 255, 511] [] (pts b (.cells (List.replicate k (strV s) ++ List.replicate (n - k) (strV [])).toArray 9) :: L) rfl (by kernel_rfl) (by kernel_rfl) (by kernel_rfl) (Ent.refl _) ?_
    refine go ?_
    refine DB.q (v := .slice (some ⟨b, k, none⟩) (n - k) (n - k)) rfl rfl hl (SV.cut rfl (cutAt.of rfl rfl) rfl hk2 (Nat.le_refl _) fun off' ho => ?_) ?_
    · rw [ho (.inl (by omega)), Nat.zero_add, Nat.mul_one]; exact eqq
    refine go ?_
    refine DB.q (v := .slice (some ⟨b, 0, none⟩) k n) rfl rfl hl (SV.cut rfl rfl (cutAt.of rfl rfl) (Nat.zero_le _) hk2 fun off' ho => ?_) ?_
    · rw [ho (.inr rfl)]; exact eqq
    refine go ?_
    refine DB.v rfl rfl rfl hl hl ?_
    have hsub : lsub (List.replicate k (strV s) ++ List.replicate (n - k) (strV [])) 0 (k * 1) = List.replicate k (strV s) := by
      rw [Nat.mul_one, lsub_eq, List.drop_zero, List.take_left' (by simp)]
    have hsrc := SrcK.row (P := Tryz.prog) (sz := 1) (b := b) (off := 0) (m := k) (cap := n) (l := List.replicate k (strV s) ++ List.replicate (n - k) (strV [])) (T := 9) (fr := (0, 0)) (L := pts b (.cells (List.replicate k (strV s) ++ List.replicate (n - k) (strV [])).toArray 9) :: L) (by rw [hlen]; omega)
    rw [hsub] at hsrc
    have hput : lput (List.replicate k (strV s) ++ List.replicate (n - k) (strV [])) k ((List.replicate k (strV s)).take (min k (n - k) * 1)) = List.replicate (k + min k (n - k)) (strV s) ++ List.replicate (n - (k + min k (n - k))) (strV []) := by
      rw [List.take_replicate, show min (min k (n - k) * 1) k = min k (n - k) by omega, lput_rep _ _ _ (by omega), show n - k - min k (n - k) = n - (k + min k (n - k)) by omega]
    refine SV.copy rfl rfl hsrc (by simp [isCell, strV]) (by rw [hlen]; omega) (.inl (Nat.le_refl _)) ?_ ?_
    · rw [hput]
      refine ⟨[], _, ent, ?_⟩
      refine go ?_
      refine ⟨_, Ent.refl _, ?_⟩
      refine go ?_
      refine ⟨k + min k (n - k), ⟨?_, trivial⟩, rfl, ⟨by omega, by omega⟩, by omega, fun _ _ x => x⟩
      show Value.int .i64 _ = _
      congr 1
    · intro e
      rw [List.take_replicate, List.replicate_eq_nil_iff] at e
      omega
  · intro hlt
    obtain rfl : k = n := by omega
    refine go ?_
    refine ⟨rfl, [_], ⟨Res.tmp rfl, trivial⟩, _, ?_, b, rfl, rfl⟩
    simp only [Nat.sub_self, List.replicate_zero, List.append_nil]
    exact Ent.trans ent (ent_own (by simp))
end Go.SL

/- Layer 7: a device: what its functions do, each walked once. -/
namespace Go.SL
open Go.Proofs
set_option linter.unusedVariables false
set_option linter.unusedSimpArgs false
set_option maxRecDepth 10000
attribute [local irreducible] W WO SV OW SW Tri Ent Tk Has Src SrcK DA DB RdS Own

theorem sl_CloneStr (a : Option Addr) (n c : Nat) (xs : List Byt) (L : List HP) (hn : n ≤ 1000000) (r : RdS 1 a n (xs.map strV) L) :
    TriE Tryz.prog 59 #[.slice a n c] (fun v M => ∃ a' c', v = .slice a' n c' ∧ SomeA a' n ∧ M = Own 9 1 (.slice a' n c') n (xs.map strV) :: L) L := by
  refine Tri.of (N := 8) (args := [.slice a n c]) Tryz.func59 rfl rfl rfl ?_
  cases a with
  | none =>
    have h0 : n = 0 := Classical.byContradiction fun h0 => by obtain ⟨b, off, e⟩ := r.at h0; cases e
    subst h0
    have hx : xs = [] := by have := r.len; simpa using this
    subst hx
    refine go ?_
    exact ⟨rfl, [_], ⟨Res.tmp rfl, trivial⟩, _, Ent.ownNil (Ent.refl _), none, 0, rfl, fun h => absurd rfl h, rfl⟩
  | some a =>
    refine go ?_
    refine WO.sv rfl ?_
    refine SV.lit0 ?_
    intro b1
    refine go ?_
    refine WO.ent (ent_own (sz := 1) (n := 0) rfl) ?_
    refine WO.sv rfl ?_
    refine SV.append rfl rfl rfl tk (RdS.src r) (by rw [r.len]) (by simp [strV, isCell]) (by omega) rfl ?_
    intro a' c' ha'
    rw [Nat.zero_add, List.nil_append] at *
    refine go ?_
    exact ⟨rfl, [_], ⟨Res.tmp rfl, trivial⟩, _, ent, a', c', rfl, ha', rfl⟩
theorem sl_CloneWr (a : Option Addr) (n c : Nat) (xs : List (Nat × Byt)) (L : List HP) (hn : n ≤ 1000000) (r : RdS 2 a n (xs.flatMap wrV) L) :
    TriE Tryz.prog 168 #[.slice a n c] (fun v M => ∃ a' c', v = .slice a' n c' ∧ SomeA a' n ∧ M = Own 187 2 (.slice a' n c') n (xs.flatMap wrV) :: L) L := by
  refine Tri.of (N := 8) (args := [.slice a n c]) Tryz.func168 rfl rfl rfl ?_
  cases a with
  | none =>
    have h0 : n = 0 := Classical.byContradiction fun h0 => by obtain ⟨b, off, e⟩ := r.at h0; cases e
    subst h0
    have hx : xs = [] := by have := r.len; rw [flat_len (n := 2) (fun _ => rfl)] at this; cases xs with | nil => rfl | cons x l => simp at this
    subst hx
    refine go ?_
    exact ⟨rfl, [_], ⟨Res.tmp rfl, trivial⟩, _, Ent.ownNil (Ent.refl _), none, 0, rfl, fun h => absurd rfl h, rfl⟩
  | some a =>
    refine go ?_
    refine WO.sv rfl ?_
    refine SV.lit0 ?_
    intro b1
    refine go ?_
    refine WO.ent (ent_own (sz := 2) (n := 0) rfl) ?_
    refine WO.sv rfl ?_
    refine SV.append rfl rfl rfl tk (RdS.src r) (by rw [r.len]) (by simp only [List.all_flatMap]; simp [wrV, strV, isCell]) (by omega) rfl ?_
    intro a' c' ha'
    rw [Nat.zero_add, List.nil_append] at *
    refine go ?_
    exact ⟨rfl, [_], ⟨Res.tmp rfl, trivial⟩, _, ent, a', c', rfl, ha', rfl⟩

theorem DevH.close {b : Nat} {d : Dv} {L R : List HP} (x : DvX) (h1 : SomeA x.1 d.kept.length) (h2 : SomeA x.2.2.1 d.now.length) (h3 : SomeA x.2.2.2.2.1 d.waits.length) (e : Ent L (dvL b x d ++ R)) : Ent L (DevH b d :: R) :=
  Ent.closeI (p := fun x : DvX => SomeA x.1 d.kept.length ∧ SomeA x.2.2.1 d.now.length ∧ SomeA x.2.2.2.2.1 d.waits.length) x ⟨h1, h2, h3⟩ e
theorem DevH.opens {P : Program} {g : FuncId} {args : Array Value} {K : Value → List HP → Prop} {b : Nat} {d : Dv} {R : List HP}
    (h : ∀ x : DvX, SomeA x.1 d.kept.length → SomeA x.2.2.1 d.now.length → SomeA x.2.2.2.2.1 d.waits.length → Tri P g args K (dvL b x d ++ R)) : Tri P g args K (DevH b d :: R) :=
  Tri.openI (p := fun x : DvX => SomeA x.1 d.kept.length ∧ SomeA x.2.2.1 d.now.length ∧ SomeA x.2.2.2.2.1 d.waits.length) fun x hx => h x hx.1 hx.2.1 hx.2.2

def zero256 : Byt := List.replicate 256 0
def Dv.new (n : Nat) : Dv := ⟨List.replicate n zero256, List.replicate n zero256, [], -1, false, 0⟩
theorem Dv.new_ok {n : Nat} (h : n ≤ 4096) : (Dv.new n).Ok :=
  ⟨by simp [Dv.new], by simp [Dv.new]; exact h, fun s hs => by rw [List.mem_replicate.1 hs |>.2]; simp [zero256], fun s hs => by rw [List.mem_replicate.1 hs |>.2]; simp [zero256], fun w hw => (by cases hw), by simp [Dv.new], rfl⟩
theorem dv_New (n : Int) (L : List HP) (h1 : 1 ≤ n) (h2 : n ≤ 4096) :
    TriE Tryz.prog 27 #[.int .i64 n] (fun v M => ∃ b, v = .tuple #[.pointer (some ⟨b, 0, none⟩), .int .i64 0] ∧ M = DevH b (Dv.new n.toNat) :: L) L := by
  obtain ⟨m, rfl⟩ : ∃ m : Nat, n = m := ⟨n.toNat, by omega⟩
  refine Tri.of (N := 29) (args := [.int .i64 m]) Tryz.func27 rfl rfl rfl ?_
  refine go ?_
  refine WO.sv rfl ?_
  refine SV.makeSlice rfl (m := 256) rfl (by decide) (by decide) ?_
  intro b1
  refine WO.sv rfl ?_
  refine SV.toStr (bs := zero256) rfl (by simp) ?_ ?_
  · rw [lsub_eq, List.drop_zero, List.take_of_length_le (by simp), zero256, List.map_replicate]; rfl
  refine go ?_
  refine WO.sv rfl ?_
  refine SV.lit rfl rfl rfl parts rfl nl ?_
  intro b2
  refine go ?_
  refine WO.callE (vs := [.slice (some ⟨b2, 0, none⟩) 1 1, .int .i64 m]) Tryz.func58 rfl rfl rfl rfl (sl_Repeat b2 1 m zero256 _ (by omega) (by omega) (RdS.all rfl)) ?_
  rintro v M ⟨b3, rfl, rfl⟩
  refine go ?_
  intro b4
  refine go ?_
  have hm : m ≠ 0 := by omega
  have e0 : List.replicate m (strV zero256) = (List.replicate m zero256).map strV := by rw [List.map_replicate]
  rw [e0]
  refine WO.callE (vs := [.slice (some ⟨b3, 0, none⟩) m m]) Tryz.func59 rfl rfl rfl rfl (sl_CloneStr (some ⟨b3, 0, none⟩) m m (List.replicate m zero256) _ (by omega) (RdS.cons (RdS.own tk (fun _ => ⟨b3, rfl⟩) (by simp)))) ?_
  rintro v M ⟨a5, c5, rfl, h5, rfl⟩
  refine go ?_
  refine ⟨rfl, [_, _], ⟨Res.tmp rfl, Res.tmp rfl, trivial⟩, DevH b4 (Dv.new m) :: L, ?_, b4, rfl, by rw [Int.toNat_natCast]⟩
  refine DevH.close (some ⟨b3, 0, none⟩, m, a5, c5, none, 0) (fun _ => ⟨b3, rfl⟩) (by simpa [Dv.new] using h5) (fun h => absurd rfl h) ?_
  simp only [dvL, Dv.new, List.length_replicate, List.cons_append, List.nil_append]
  refine Ent.take tk (Ent.take tk (Ent.take tk ?_))
  exact Ent.ownNil ent
theorem dv_NewBad (n : Int) (L : List HP) (h : n < 1 ∨ 4096 < n) :
    TriE Tryz.prog 27 #[.int .i64 n] (fun v M => v = .tuple #[.pointer none, .int .i64 2] ∧ M = L) L := by
  refine Tri.of (N := 29) (args := [.int .i64 n]) Tryz.func27 rfl rfl rfl ?_
  by_cases h1 : n < 1
  · refine go ?_
    exact ⟨rfl, [_, _], ⟨Res.tmp rfl, Res.tmp rfl, trivial⟩, _, ent, rfl, rfl⟩
  · refine go ?_
    exact ⟨rfl, [_, _], ⟨Res.tmp rfl, Res.tmp rfl, trivial⟩, _, ent, rfl, rfl⟩
end Go.SL

/- Layer 7: a device: what its functions do, each walked once (2). -/
namespace Go.SL
open Go.Proofs
set_option linter.unusedVariables false
set_option linter.unusedSimpArgs false
set_option maxRecDepth 10000
attribute [local irreducible] W WO SV OW SW Tri Ent Tk Has Src SrcK DA DB RdS Own

@[simp] theorem Dv.call_kept (d : Dv) (may : Bool) : (d.call may).1.kept = d.kept := by unfold Dv.call; split; rfl; split <;> rfl
@[simp] theorem Dv.call_now (d : Dv) (may : Bool) : (d.call may).1.now = d.now := by unfold Dv.call; split; rfl; split <;> rfl
@[simp] theorem Dv.call_waits (d : Dv) (may : Bool) : (d.call may).1.waits = d.waits := by unfold Dv.call; split; rfl; split <;> rfl
theorem Dv.call_err (d : Dv) (may : Bool) : (d.call may).2 = 0 ∨ (d.call may).2 = 1 ∨ (d.call may).2 = 2 ∨ (d.call may).2 = 17 := by
  unfold Dv.call; split; exact .inr (.inl rfl); split; exact .inr (.inr (.inl rfl)); dsimp only; split; exact .inr (.inr (.inr rfl)); exact .inl rfl
theorem Dv.call_zero {d : Dv} {may : Bool} (h : (d.call may).2 = 0) : d.kept.length ≠ 0 ∧ may = true := by
  unfold Dv.call at h
  split at h
  · cases h
  · split at h
    · cases h
    · rename_i h1 h2; exact ⟨h1, by simpa using h2⟩

/-- What a Read answers. -/
def Dv.read (d : Dv) (n : Int) : Dv × Int := d.call (d.is n)
def Dv.put (d : Dv) (n : Int) (s : Byt) : Dv × Int :=
  if (d.call (d.is n && decide (s.length = 256))).2 = 0 then ({ (d.call (d.is n && decide (s.length = 256))).1 with now := d.now.set n.toNat s, waits := d.waits ++ [(n.toNat, s)] }, 0) else d.call (d.is n && decide (s.length = 256))
def Dv.flush (d : Dv) : Dv × Int :=
  if (d.call true).2 = 0 then ({ (d.call true).1 with kept := flushN d.kept d.waits d.waits.length, waits := [] }, 0) else d.call true
def keepN (ks : List Int) (i : Nat) : Nat := (max 0 (min (ks.getD i 0) 256)).toNat
def fallN (kept : List Byt) (waits : List (Nat × Byt)) (ks : List Int) : Nat → List Byt
  | 0 => kept
  | i + 1 => (fallN kept waits ks i).set (waits.getD i (0, [])).1 ((waits.getD i (0, [])).2.take (keepN ks i) ++ ((fallN kept waits ks i).getD (waits.getD i (0, [])).1 []).drop (keepN ks i))
def Dv.fall (d : Dv) (ks : List Int) : Dv :=
  if d.kept.length = 0 then d else ⟨fallN d.kept d.waits ks d.waits.length, fallN d.kept d.waits ks d.waits.length, [], -1, false, d.ops⟩
theorem flushN_len (kept : List Byt) (waits : List (Nat × Byt)) : ∀ i, (flushN kept waits i).length = kept.length
  | 0 => rfl
  | i + 1 => by rw [flushN, List.length_set, flushN_len kept waits i]
theorem fallN_len (kept : List Byt) (waits : List (Nat × Byt)) (ks : List Int) : ∀ i, (fallN kept waits ks i).length = kept.length
  | 0 => rfl
  | i + 1 => by rw [fallN, List.length_set, fallN_len kept waits ks i]
theorem keepN_le (ks : List Int) (i : Nat) : keepN ks i ≤ 256 := by unfold keepN; omega
theorem getD_mem {α : Type} {l : List α} {i : Nat} {x : α} (h : i < l.length) : l.getD i x ∈ l := by
  rw [List.getD_eq_getElem?_getD, List.getElem?_eq_getElem h]; exact List.getElem_mem h
theorem flushN_256 {kept : List Byt} {waits : List (Nat × Byt)} (hk : ∀ s ∈ kept, s.length = 256) (hw : ∀ w ∈ waits, w.2.length = 256) : ∀ i, i ≤ waits.length → ∀ s ∈ flushN kept waits i, s.length = 256
  | 0, _, s, h => hk s h
  | i + 1, hi, s, h => by
    rcases List.mem_or_eq_of_mem_set h with h | h
    · exact flushN_256 hk hw i (by omega) s h
    · rw [h]; exact hw _ (getD_mem (by omega))
theorem fallN_256 {kept : List Byt} {waits : List (Nat × Byt)} {ks : List Int} (hk : ∀ s ∈ kept, s.length = 256) (hw : ∀ w ∈ waits, w.1 < kept.length ∧ w.2.length = 256) : ∀ i, i ≤ waits.length → ∀ s ∈ fallN kept waits ks i, s.length = 256
  | 0, _, s, h => hk s h
  | i + 1, hi, s, h => by
    rcases List.mem_or_eq_of_mem_set h with h | h
    · exact fallN_256 hk hw i (by omega) s h
    · have h1 := hw _ (getD_mem (l := waits) (i := i) (x := (0, [])) (by omega))
      have h2 := fallN_256 hk hw (ks := ks) i (by omega) _ (getD_mem (l := fallN kept waits ks i) (i := (waits.getD i (0, [])).1) (x := []) (by rw [fallN_len]; exact h1.1))
      have := keepN_le ks i
      rw [h, List.length_append, List.length_take, List.length_drop, h1.2, h2]; omega
theorem flushN_app (kept : List Byt) (ws : List (Nat × Byt)) (w : Nat × Byt) : ∀ i, i ≤ ws.length → flushN kept (ws ++ [w]) i = flushN kept ws i
  | 0, _ => rfl
  | i + 1, h => by
    rw [flushN, flushN, flushN_app kept ws w i (by omega)]
    have : (ws ++ [w]).getD i (0, []) = ws.getD i (0, []) := by
      rw [List.getD_eq_getElem?_getD, List.getD_eq_getElem?_getD, List.getElem?_append_left (by omega)]
    rw [this]
theorem flushN_snoc (kept : List Byt) (ws : List (Nat × Byt)) (w : Nat × Byt) : flushN kept (ws ++ [w]) (ws.length + 1) = (flushN kept ws ws.length).set w.1 w.2 := by
  rw [flushN, flushN_app _ _ _ _ (Nat.le_refl _)]
  have : (ws ++ [w]).getD ws.length (0, []) = w := by
    rw [List.getD_eq_getElem?_getD, List.getElem?_append_right (Nat.le_refl _)]; simp
  rw [this]
theorem Dv.put_ok {d : Dv} (ok : d.Ok) (n : Int) (s : Byt) : (d.put n s).1.Ok := by
  have h := Dv.call_ok ok (d.is n && decide (s.length = 256))
  unfold Dv.put
  split
  · rename_i h0
    have hm := (Dv.call_zero h0).2
    simp only [Bool.and_eq_true, decide_eq_true_eq, Dv.is] at hm
    refine ⟨?_, by simpa using ok.size, by simpa using ok.k256, ?_, ?_, h.arm, ?_⟩
    · simp only [List.length_set, Dv.call_kept]; exact ok.now
    · intro t ht
      rcases List.mem_or_eq_of_mem_set ht with q | q
      · exact ok.n256 _ q
      · rw [q]; exact hm.2
    · intro w hw
      simp only [Dv.call_kept]
      rcases List.mem_append.1 hw with q | q
      · exact ok.w256 _ q
      · rw [List.mem_singleton] at q
        subst q
        exact ⟨by dsimp only; omega, hm.2⟩
    · simp only [Dv.call_kept, List.length_append, List.length_singleton]
      rw [flushN_snoc, ok.sync]
  · exact h
theorem Dv.flush_ok {d : Dv} (ok : d.Ok) : d.flush.1.Ok := by
  have h := Dv.call_ok ok true
  unfold Dv.flush
  split
  · exact ⟨by simp only [flushN_len, Dv.call_now]; exact ok.now, by simp only [flushN_len]; exact ok.size, flushN_256 ok.k256 (fun w hw => (ok.w256 w hw).2) _ (Nat.le_refl _), by simpa using ok.n256, fun w hw => (by cases hw), h.arm, by simp only [List.length_nil, flushN, Dv.call_now]; exact ok.sync⟩
  · exact h
theorem Dv.fall_ok {d : Dv} (ok : d.Ok) (ks : List Int) : (d.fall ks).Ok := by
  unfold Dv.fall
  split
  · exact ok
  · exact ⟨rfl, by simp only [fallN_len]; exact ok.size, fallN_256 ok.k256 ok.w256 _ (Nat.le_refl _), fallN_256 ok.k256 ok.w256 _ (Nat.le_refl _), fun w hw => (by cases hw), by simp, rfl⟩

theorem dv_Down (b : Nat) (d : Dv) (R : List HP) : TriE Tryz.prog 73 #[.pointer (some ⟨b, 0, none⟩)]
    (fun v M => v = .bool (!decide (d.kept.length = 0) && d.down) ∧ M = DevH b d :: R) (DevH b d :: R) := by
  refine DevH.opens fun x h1 h2 h3 => ?_
  have hc := DevH.close (b := b) (R := R) x h1 h2 h3 (Ent.refl _)
  obtain ⟨ka, kc, na, nc, wa, wc⟩ := x
  simp only [dvL, List.cons_append, List.nil_append] at hc ⊢
  refine Tri.of (N := 12) (args := [.pointer (some ⟨b, 0, none⟩)]) Tryz.func73 rfl rfl rfl ?_
  refine go ?_
  refine WO.callE (vs := [.pointer (some ⟨b, 0, none⟩)]) Tryz.func123 rfl rfl rfl rfl (dv_none b _ _ _ _ _ _ _ _ _ (RdS.all rfl)) ?_
  rintro v M ⟨rfl, rfl⟩
  by_cases h : d.kept.length = 0
  · rw [decide_eq_true h]
    refine go ?_
    exact ⟨rfl, [_], ⟨Res.tmp rfl, trivial⟩, _, hc, rfl, rfl⟩
  · rw [decide_eq_false h]
    refine go ?_
    exact ⟨rfl, [_], ⟨Res.tmp rfl, trivial⟩, _, hc, rfl, rfl⟩
theorem dv_Arm (b : Nat) (d : Dv) (n : Int) (R : List HP) (hn : n ≤ 9223372036854775807) : TriE Tryz.prog 129 #[.pointer (some ⟨b, 0, none⟩), .int .i64 n]
    (fun v M => M = DevH b (if d.kept.length = 0 then d else { d with arm := max (-1) n }) :: R) (DevH b d :: R) := by
  refine DevH.opens fun x h1 h2 h3 => ?_
  have hc := DevH.close (b := b) (R := R) x h1 h2 h3 (Ent.refl _)
  have hc2 := DevH.close (b := b) (d := { d with arm := max (-1) n }) (R := R) x h1 h2 h3 (Ent.refl _)
  obtain ⟨ka, kc, na, nc, wa, wc⟩ := x
  simp only [dvL, List.cons_append, List.nil_append] at hc hc2 ⊢
  refine Tri.of (N := 12) (args := [.pointer (some ⟨b, 0, none⟩), .int .i64 n]) Tryz.func129 rfl rfl rfl ?_
  refine go ?_
  refine WO.callE (vs := [.pointer (some ⟨b, 0, none⟩)]) Tryz.func123 rfl rfl rfl rfl (dv_none b _ _ _ _ _ _ _ _ _ (RdS.all rfl)) ?_
  rintro v M ⟨rfl, rfl⟩
  by_cases h : d.kept.length = 0
  · rw [decide_eq_true h, if_pos h]
    refine go ?_
    exact ⟨rfl, [], trivial, _, hc, rfl⟩
  · rw [decide_eq_false h, if_neg h]
    refine go ?_
    exact ⟨rfl, [], trivial, _, hc2, rfl⟩

theorem mem256 {l : List Byt} (h : ∀ s ∈ l, s.length = 256) {i : Nat} (hi : i < l.length) : (l.getD i []).length = 256 := h _ (getD_mem hi)
theorem getstr {l : List Byt} {i : Nat} (hi : i < l.length) : (l.map strV)[i]? = some (strV (l.getD i [])) := by simp [hi]
theorem dv_Read (b : Nat) (d : Dv) (n : Int) (R : List HP) (ok : d.Ok) :
    TriE Tryz.prog 81 #[.pointer (some ⟨b, 0, none⟩), .int .i64 n]
      (fun v M => ((d.read n).2 ≠ 0 ∧ v = .tuple #[.slice none 0 0, .int .i64 (d.read n).2] ∧ M = DevH b (d.read n).1 :: R) ∨
        ((d.read n).2 = 0 ∧ ∃ a c, v = .tuple #[.slice a 256 c, .int .i64 0] ∧ SomeA a 256 ∧ M = OS a c (d.now.getD n.toNat []) :: DevH b (d.read n).1 :: R)) (DevH b d :: R) := by
  refine DevH.opens fun x h1 h2 h3 => ?_
  have hc := DevH.close (b := b) (d := (d.read n).1) (R := R) x (by simpa [Dv.read] using h1) (by simpa [Dv.read] using h2) (by simpa [Dv.read] using h3) (Ent.refl _)
  have hcall := dv_call b x d (d.is n) R ok.arm
  obtain ⟨ka, kc, na, nc, wa, wc⟩ := x
  unfold Dv.read at hc ⊢
  generalize hdc : d.call (d.is n) = dc at hcall hc ⊢
  have k1 : dc.1.kept = d.kept := by rw [← hdc]; simp
  have k2 : dc.1.now = d.now := by rw [← hdc]; simp
  have k3 : dc.1.waits = d.waits := by rw [← hdc]; simp
  have hz : dc.2 = 0 → d.kept.length ≠ 0 ∧ d.is n = true := fun h => Dv.call_zero (by rw [hdc]; exact h)
  simp only [dvL, List.cons_append, List.nil_append, k1, k2, k3] at hcall hc ⊢
  refine Tri.of (N := 27) (args := [.pointer (some ⟨b, 0, none⟩), .int .i64 n]) Tryz.func81 rfl rfl rfl ?_
  refine go ?_
  refine WO.callE (vs := [.pointer (some ⟨b, 0, none⟩), .int .i64 n]) Tryz.func138 rfl rfl rfl rfl (dv_is b _ _ n _ _ _ _ _ _ _ (RdS.all rfl)) ?_
  rintro v M ⟨rfl, rfl⟩
  rw [show (decide (0 ≤ n) && decide (n < d.kept.length)) = d.is n from rfl]
  refine WO.callE (vs := [.pointer (some ⟨b, 0, none⟩), .bool (d.is n)]) Tryz.func137 rfl rfl rfl rfl hcall ?_
  rintro v M ⟨rfl, rfl⟩
  by_cases he : dc.2 = 0
  · rw [he]
    obtain ⟨hk, his⟩ := hz he
    have hn : 0 ≤ n ∧ n < d.kept.length := by simpa [Dv.is] using his
    have hnow := ok.now
    have hsz := ok.size
    have h256 := mem256 ok.n256 (i := n.toNat) (by omega)
    obtain ⟨nb, rfl⟩ := h2 (by omega)
    have hget := getstr (l := d.now) (i := n.toNat) (by omega)
    generalize d.now.getD n.toNat [] = s at h256 hget ⊢
    refine go ?_
    refine WO.sv rfl ?_
    refine SV.makeSlice rfl (m := 256) rfl (by decide) (by decide) ?_
    intro b1
    refine go ?_
    refine WO.sv rfl ?_
    refine SV.loadR n.toNat rfl (RdS.own tk h2 (by simp)) (by omega) hget ?_
    refine WO.sv rfl ?_
    refine SV.copyP rfl rfl SrcK.str (by simp [u8V, isCell]) (by simp) (.inl (Nat.le_refl _)) (l' := s.map u8V) ?_ (by simp [h256]) rfl ?_
    · rw [h256, Nat.min_self, Nat.mul_one, List.take_of_length_le (by simp [h256]), List.length_map, h256, List.drop_of_length_le (by simp), List.append_nil]
    refine go ?_
    refine ⟨rfl, [_, _], ⟨Res.tmp rfl, Res.tmp rfl, trivial⟩, OS (some ⟨b1, 0, none⟩) 256 s :: DevH b dc.1 :: R, ?_, .inr ⟨rfl, some ⟨b1, 0, none⟩, 256, rfl, fun _ => ⟨b1, rfl⟩, rfl⟩⟩
    refine Ent.trans (ent_own (E := 5) (sz := 1) (n := 256) (by simp [h256])) ?_
    unfold OS
    rw [h256]
    exact Ent.take tk hc
  · refine go ?_
    exact ⟨rfl, [_, _], ⟨Res.tmp rfl, Res.tmp rfl, trivial⟩, _, hc, .inl ⟨he, rfl, rfl⟩⟩
end Go.SL

/- Layer 7: a device: Write, Flush, Fall, Clone, each walked once. -/
namespace Go.SL
open Go.Proofs
set_option linter.unusedVariables false
set_option linter.unusedSimpArgs false
set_option maxRecDepth 10000
attribute [local irreducible] W WO SV OW SW Tri Ent Tk Has Src SrcK DA DB RdS Own

theorem dv_Write (b : Nat) (d : Dv) (n : Int) (a : Option Addr) (c : Nat) (s : Byt) (R : List HP) (ok : d.Ok) (hls : s.length ≤ 9223372036854775807) (hw : d.waits.length ≤ 1000000) (r : RdS 1 a s.length (s.map u8V) R) :
    TriE Tryz.prog 103 #[.pointer (some ⟨b, 0, none⟩), .int .i64 n, .slice a s.length c] (fun v M => v = .int .i64 (d.put n s).2 ∧ M = DevH b (d.put n s).1 :: R) (DevH b d :: R) := by
  refine DevH.opens fun x h1 h2 h3 => ?_
  have hcall := dv_call b x d (d.is n && decide (s.length = 256)) R ok.arm
  have hc := DevH.close (b := b) (d := (d.call (d.is n && decide (s.length = 256))).1) (R := R) x (by simpa using h1) (by simpa using h2) (by simpa using h3) (Ent.refl _)
  obtain ⟨ka, kc, na, nc, wa, wc⟩ := x
  unfold Dv.put
  generalize hdc : d.call (d.is n && decide (s.length = 256)) = dc at hcall hc ⊢
  have k1 : dc.1.kept = d.kept := by rw [← hdc]; simp
  have k2 : dc.1.now = d.now := by rw [← hdc]; simp
  have k3 : dc.1.waits = d.waits := by rw [← hdc]; simp
  have hz : dc.2 = 0 → d.kept.length ≠ 0 ∧ (d.is n && decide (s.length = 256)) = true := fun h => Dv.call_zero (by rw [hdc]; exact h)
  simp only [dvL, List.cons_append, List.nil_append, k1, k2, k3] at hcall hc ⊢
  refine Tri.of (N := 47) (args := [.pointer (some ⟨b, 0, none⟩), .int .i64 n, .slice a s.length c]) Tryz.func103 rfl rfl rfl ?_
  refine go ?_
  refine WO.callE (vs := [.pointer (some ⟨b, 0, none⟩), .int .i64 n]) Tryz.func138 rfl rfl rfl rfl (dv_is b _ _ n _ _ _ _ _ _ _ (RdS.all rfl)) ?_
  rintro v M ⟨rfl, rfl⟩
  rw [show (decide (0 ≤ n) && decide (n < d.kept.length)) = d.is n from rfl]
  cases his : d.is n with
  | false =>
    rw [his, Bool.false_and] at hcall
    have he : dc.2 ≠ 0 := fun h => by have := (hz h).2; rw [his] at this; cases this
    rw [if_neg he]
    refine go ?_
    refine WO.callE (vs := [.pointer (some ⟨b, 0, none⟩), .bool false]) Tryz.func137 rfl rfl rfl rfl hcall ?_
    rintro v M ⟨rfl, rfl⟩
    refine go ?_
    exact ⟨rfl, [_], ⟨Res.tmp rfl, trivial⟩, _, hc, rfl, rfl⟩
  | true =>
    by_cases hs : s.length = 256
    · rw [his, decide_eq_true hs, Bool.true_and] at hcall
      refine go ?_
      refine WO.callE (vs := [.pointer (some ⟨b, 0, none⟩), .bool true]) Tryz.func137 rfl rfl rfl rfl hcall ?_
      rintro v M ⟨rfl, rfl⟩
      by_cases he : dc.2 = 0
      · rw [if_pos he]
        obtain ⟨hk, _⟩ := hz he
        have hn : 0 ≤ n ∧ n < d.kept.length := by simpa [Dv.is] using his
        have hnow := ok.now
        have hsz := ok.size
        obtain ⟨nb, rfl⟩ := h2 (by omega)
        refine go ?_
        refine W.drawA rfl (by kernel_rfl) (by kernel_rfl) ?_
        refine go ?_
        refine DA.q (v := strV s) rfl rfl (SV.toStrR rfl (RdS.cons (RdS.cons (RdS.cons (RdS.cons r)))) eqq) ?_
        refine go ?_
        refine DA.v rfl rfl rfl ?_
        refine SV.storeO n.toNat (v := strV s) (xs' := (d.now.set n.toNat s).map strV) rfl tk (by omega) rfl rfl (by simp; omega) (by rw [List.map_set]) ?_
        refine go ?_
        have hget : ((d.now.set n.toNat s).map strV)[n.toNat]? = some (strV s) := by
          rw [List.getElem?_map, List.getElem?_set]; simp; omega
        have hlw : (d.waits.flatMap wrV).length = d.waits.length * 2 := flat_len (n := 2) (fun _ => rfl) _
        refine W.drawC 18 #[0, 0, 2, 6, 14, 0, 0, 64, 192, 448, 0, 1984, 4032, 8160, 16352, 32766, 65535, 131071, 262143]
          [pts b (.cells [Value.slice ka d.kept.length kc, Value.slice (some ⟨nb, 0, none⟩) d.now.length nc, Value.slice wa d.waits.length wc, .int .i64 dc.1.arm, .bool dc.1.down, .int .i64 dc.1.ops].toArray 117), Own 9 1 (.slice (some ⟨nb, 0, none⟩) d.now.length nc) d.now.length ((d.now.set n.toNat s).map strV)]
          (Own 9 1 (.slice ka d.kept.length kc) d.kept.length (d.kept.map strV) :: Own 187 2 (.slice wa d.waits.length wc) d.waits.length (d.waits.flatMap wrV) :: R) rfl (by kernel_rfl) (by kernel_rfl) (by kernel_rfl) (by kernel_rfl) rfl rfl rfl ent ?_
        refine go ?_
        refine DB.q (v := strV s) rfl rfl hl ?_ ?_
        · refine SV.loadR n.toNat rfl (RdS.own (Tk.there Tk.here) h2 (by simp)) (by omega) hget ?_
          exact eqq
        refine go ?_
        refine DB.lit rfl rfl rfl parts rfl nl rfl rfl ?_
        intro b2
        refine DB.v rfl rfl rfl hl hl ?_
        refine SV.append rfl rfl rfl tk (RdS.src (RdS.all (sz := 2) (n := 1) rfl)) rfl rfl (by omega) rfl ?_
        intro wa' wc' hwa'
        refine ⟨[], Own 187 2 (.slice wa' (d.waits.length + 1) wc') (d.waits.length + 1) (d.waits.flatMap wrV ++ [Value.int .i64 n, strV s]) :: Own 9 1 (.slice ka d.kept.length kc) d.kept.length (d.kept.map strV) :: R, ent, ?_⟩
        refine go ?_
        refine ⟨pts b (.cells [Value.slice ka d.kept.length kc, Value.slice (some ⟨nb, 0, none⟩) d.now.length nc, Value.slice wa d.waits.length wc, .int .i64 dc.1.arm, .bool dc.1.down, .int .i64 dc.1.ops].toArray 117) :: Own 9 1 (.slice (some ⟨nb, 0, none⟩) d.now.length nc) d.now.length ((d.now.set n.toNat s).map strV) ::
          Own 187 2 (.slice wa' (d.waits.length + 1) wc') (d.waits.length + 1) (d.waits.flatMap wrV ++ [Value.int .i64 n, strV s]) :: Own 9 1 (.slice ka d.kept.length kc) d.kept.length (d.kept.map strV) :: R, ent, OW.sv ?_⟩
        refine SV.store rfl rfl cel rfl rfl rfl frz le0 nl ?_
        refine ⟨_, Ent.refl _, ?_⟩
        refine go ?_
        refine ⟨rfl, [_], ⟨Res.tmp rfl, trivial⟩, DevH b ⟨d.kept, d.now.set n.toNat s, d.waits ++ [(n.toNat, s)], dc.1.arm, dc.1.down, dc.1.ops⟩ :: R, ?_, ?_, rfl⟩
        · refine DevH.close (ka, kc, some ⟨nb, 0, none⟩, nc, wa', wc') h1 (fun _ => ⟨nb, rfl⟩) (fun _ => hwa' (by omega)) ?_
          have e1 : (d.waits ++ [(n.toNat, s)]).flatMap wrV = d.waits.flatMap wrV ++ [Value.int .i64 n, strV s] := by
            rw [List.flatMap_append]; simp [wrV, Int.toNat_of_nonneg hn.1]
          simp only [dvL, List.length_set, List.length_append, List.length_singleton, e1, List.cons_append, List.nil_append]
          exact ent
        · rw [he]; rfl
      · rw [if_neg he]
        refine go ?_
        exact ⟨rfl, [_], ⟨Res.tmp rfl, trivial⟩, _, hc, rfl, rfl⟩
    · rw [his, decide_eq_false hs, Bool.true_and] at hcall
      have he : dc.2 ≠ 0 := fun h => by have := (hz h).2; rw [his, decide_eq_false hs] at this; cases this
      rw [if_neg he]
      refine go ?_
      refine WO.callE (vs := [.pointer (some ⟨b, 0, none⟩), .bool false]) Tryz.func137 rfl rfl rfl rfl hcall ?_
      rintro v M ⟨rfl, rfl⟩
      refine go ?_
      exact ⟨rfl, [_], ⟨Res.tmp rfl, trivial⟩, _, hc, rfl, rfl⟩

theorem dv_Flush (b : Nat) (d : Dv) (R : List HP) (ok : d.Ok) (hw : d.waits.length ≤ 1000000000) :
    TriE Tryz.prog 104 #[.pointer (some ⟨b, 0, none⟩)] (fun v M => v = .int .i64 d.flush.2 ∧ M = DevH b d.flush.1 :: R) (DevH b d :: R) := by
  refine DevH.opens fun x h1 h2 h3 => ?_
  have hcall := dv_call b x d true R ok.arm
  have hc := DevH.close (b := b) (d := (d.call true).1) (R := R) x (by simpa using h1) (by simpa using h2) (by simpa using h3) (Ent.refl _)
  obtain ⟨ka, kc, na, nc, wa, wc⟩ := x
  unfold Dv.flush
  generalize hdc : d.call true = dc at hcall hc ⊢
  have k1 : dc.1.kept = d.kept := by rw [← hdc]; simp
  have k2 : dc.1.now = d.now := by rw [← hdc]; simp
  have k3 : dc.1.waits = d.waits := by rw [← hdc]; simp
  simp only [dvL, List.cons_append, List.nil_append, k1, k2, k3] at hcall hc ⊢
  refine Tri.of (N := 33) (args := [.pointer (some ⟨b, 0, none⟩)]) Tryz.func104 rfl rfl rfl ?_
  refine go ?_
  refine WO.callE (vs := [.pointer (some ⟨b, 0, none⟩), .bool true]) Tryz.func137 rfl rfl rfl rfl hcall ?_
  rintro v M ⟨rfl, rfl⟩
  by_cases he : dc.2 = 0
  · rw [if_pos he, he]
    refine go ?_
    have hlw : (d.waits.flatMap wrV).length = d.waits.length * 2 := flat_len (n := 2) (fun _ => rfl) _
    have hlk := flushN_len d.kept d.waits
    refine W.loopS 536838176 rfl (fun i : Nat => [(15, .int .i64 i)])
      (fun i => pts b (.cells [Value.slice ka d.kept.length kc, Value.slice na d.now.length nc, Value.slice wa d.waits.length wc, .int .i64 dc.1.arm, .bool dc.1.down, .int .i64 dc.1.ops].toArray 117) :: Own 9 1 (.slice ka d.kept.length kc) d.kept.length ((flushN d.kept d.waits i).map strV) ::
        Own 9 1 (.slice na d.now.length nc) d.now.length (d.now.map strV) :: Own 187 2 (.slice wa d.waits.length wc) d.waits.length (d.waits.flatMap wrV) :: R) (fun i => i ≤ d.waits.length) (fun i => d.waits.length - i) 0 ⟨rfl, trivial⟩ (Nat.zero_le _) (Ent.app (Ent.refl _)) ?_
    intro i bg hi
    refine go ?_
    refine WO.sv rfl ?_
    refine SV.lssC rfl rfl ?_ ?_
    · intro hlt
      have hi' : i < d.waits.length := by omega
      obtain ⟨wb, rfl⟩ := h3 (by omega)
      have hsub := flat_sub (g := wrV) (n := 2) (fun _ => rfl) d.waits i hi'
      have hwi := ok.w256 _ (List.getElem_mem hi')
      have hgd : d.waits.getD i (0, []) = d.waits[i] := by simp [hi']
      have hfl : flushN d.kept d.waits (i + 1) = (flushN d.kept d.waits i).set d.waits[i].1 d.waits[i].2 := by rw [flushN, hgd]
      generalize d.waits[i] = w at hsub hwi hgd hfl
      obtain ⟨wn, ws⟩ := w
      dsimp only at hwi hfl
      obtain ⟨kb, rfl⟩ := h1 (by omega)
      refine go ?_
      refine WO.sv rfl ?_
      refine SV.loadRN (i * 2) rfl (RdS.own tk h3 hlw) (by simp) (by decide) (by omega) hsub ?_
      refine go ?_
      intro b5
      refine go ?_
      refine W.drawA rfl (by kernel_rfl) (by kernel_rfl) ?_
      refine go ?_
      refine DA.v rfl rfl rfl ?_
      refine SV.storeO wn (v := strV ws) (xs' := (flushN d.kept d.waits (i + 1)).map strV) rfl tk (by omega) rfl rfl (by simp [hlk]; omega) (by rw [hfl, List.map_set]) ?_
      refine go ?_
      exact ⟨i + 1, ⟨rfl, trivial⟩, rfl, by omega, by omega, Ent.app ent⟩
    · intro hlt
      obtain rfl : i = d.waits.length := by omega
      refine go ?_
      refine ⟨rfl, [_], ⟨Res.tmp rfl, trivial⟩, DevH b ⟨flushN d.kept d.waits d.waits.length, d.now, [], dc.1.arm, dc.1.down, dc.1.ops⟩ :: R, ?_, rfl, rfl⟩
      refine DevH.close (ka, kc, na, nc, none, 0) (by rw [hlk]; exact h1) h2 (fun h => absurd rfl h) ?_
      simp only [dvL, hlk, List.cons_append, List.nil_append]
      exact Ent.take tk (Ent.take tk (Ent.take tk (Ent.ownNil ent)))
  · rw [if_neg he]
    refine go ?_
    exact ⟨rfl, [_], ⟨Res.tmp rfl, trivial⟩, _, hc, rfl, rfl⟩
end Go.SL

/- Layer 7: a device: Fall, Clone, each walked once. -/
namespace Go.SL
open Go.Proofs
set_option linter.unusedVariables false
set_option linter.unusedSimpArgs false
set_option maxRecDepth 10000
attribute [local irreducible] W WO SV OW SW Tri Ent Tk Has Src SrcK DA DB RdS Own

theorem fallN_succ {kept : List Byt} {waits : List (Nat × Byt)} {ks : List Int} {i wn : Nat} {ws : Byt} (h : waits.getD i (0, []) = (wn, ws)) :
    fallN kept waits ks (i + 1) = (fallN kept waits ks i).set wn (ws.take (keepN ks i) ++ ((fallN kept waits ks i).getD wn []).drop (keepN ks i)) := by rw [fallN, h]
theorem dv_Fall (b : Nat) (d : Dv) (a : Option Addr) (c : Nat) (ks : List Int) (R : List HP) (ok : d.Ok) (hw : d.waits.length ≤ 1000000000) (hks : ks.length ≤ 9223372036854775807) (r : RdS 1 a ks.length (ks.map (Value.int .i64)) R) :
    TriE Tryz.prog 67 #[.pointer (some ⟨b, 0, none⟩), .slice a ks.length c] (fun v M => M = DevH b (d.fall ks) :: R) (DevH b d :: R) := by
  refine DevH.opens fun x h1 h2 h3 => ?_
  have hc := DevH.close (b := b) (d := d) (R := R) x h1 h2 h3 (Ent.refl _)
  obtain ⟨ka, kc, na, nc, wa, wc⟩ := x
  simp only [dvL, List.cons_append, List.nil_append] at hc ⊢
  refine Tri.of (N := 69) (args := [.pointer (some ⟨b, 0, none⟩), .slice a ks.length c]) Tryz.func67 rfl rfl rfl ?_
  refine go ?_
  refine WO.callE (vs := [.pointer (some ⟨b, 0, none⟩)]) Tryz.func123 rfl rfl rfl rfl (dv_none b _ _ _ _ _ _ _ _ _ (RdS.all rfl)) ?_
  rintro v M ⟨rfl, rfl⟩
  by_cases hk0 : d.kept.length = 0
  · rw [decide_eq_true hk0]
    refine go ?_
    exact ⟨rfl, [], trivial, _, hc, by rw [Dv.fall, if_pos hk0]⟩
  rw [decide_eq_false hk0]
  refine go ?_
  have hlw : (d.waits.flatMap wrV).length = d.waits.length * 2 := flat_len (n := 2) (fun _ => rfl) _
  have hlk := fallN_len d.kept d.waits ks
  have hsz := ok.size
  refine W.loopS 4503599627354224 rfl (fun i : Nat => [(14, .int .i64 i)])
    (fun i => pts b (.cells [Value.slice ka d.kept.length kc, Value.slice na d.now.length nc, Value.slice wa d.waits.length wc, .int .i64 d.arm, .bool d.down, .int .i64 d.ops].toArray 117) :: Own 9 1 (.slice ka d.kept.length kc) d.kept.length ((fallN d.kept d.waits ks i).map strV) ::
      Own 9 1 (.slice na d.now.length nc) d.now.length (d.now.map strV) :: Own 187 2 (.slice wa d.waits.length wc) d.waits.length (d.waits.flatMap wrV) :: R) (fun i => i ≤ d.waits.length) (fun i => d.waits.length - i) 0 ⟨rfl, trivial⟩ (Nat.zero_le _) (Ent.app (Ent.refl _)) ?_
  intro i bg hi
  refine go ?_
  refine WO.sv rfl ?_
  refine SV.lssC rfl rfl ?_ ?_
  · intro hlt
    have hi' : i < d.waits.length := by omega
    obtain ⟨wb, rfl⟩ := h3 (by omega)
    have hsub := flat_sub (g := wrV) (n := 2) (fun _ => rfl) d.waits i hi'
    have hwi := ok.w256 _ (List.getElem_mem hi')
    have hgd : d.waits.getD i (0, []) = d.waits[i] := by simp [hi']
    generalize d.waits[i] = w at hsub hwi hgd
    obtain ⟨wn, ws⟩ := w
    dsimp only at hwi
    have hfl := fallN_succ (kept := d.kept) (ks := ks) hgd
    have hs0 := fallN_256 ok.k256 ok.w256 (ks := ks) i (by omega) _ (getD_mem (l := fallN d.kept d.waits ks i) (i := wn) (x := []) (by rw [hlk]; exact hwi.1))
    have hget := getstr (l := fallN d.kept d.waits ks i) (i := wn) (by rw [hlk]; exact hwi.1)
    generalize (fallN d.kept d.waits ks i).getD wn [] = s0 at hfl hs0 hget
    have hkn := keepN_le ks i
    obtain ⟨kb, rfl⟩ := h1 (by omega)
    refine go ?_
    refine WO.sv rfl ?_
    refine SV.loadRN (i * 2) rfl (RdS.own tk h3 hlw) (by simp) (by decide) (by omega) hsub ?_
    refine go ?_
    intro b5
    refine go ?_
    refine WO.sv rfl ?_
    refine SV.lss rfl rfl ?_
    refine go ?_
    refine W.cut 528482368 rfl (fun _ : Unit => [(6, .int .i64 (keepN ks i))]) (fun _ => pts b5 (.cells [Value.int .i64 wn, strV ws].toArray 187) :: pts b (.cells [Value.slice (some ⟨kb, 0, none⟩) d.kept.length kc, Value.slice na d.now.length nc, Value.slice (some ⟨wb, 0, none⟩) d.waits.length wc, .int .i64 d.arm, .bool d.down, .int .i64 d.ops].toArray 117) ::
      Own 9 1 (.slice (some ⟨kb, 0, none⟩) d.kept.length kc) d.kept.length ((fallN d.kept d.waits ks i).map strV) :: Own 9 1 (.slice na d.now.length nc) d.now.length (d.now.map strV) :: Own 187 2 (.slice (some ⟨wb, 0, none⟩) d.waits.length wc) d.waits.length (d.waits.flatMap wrV) :: R) (fun _ => True) ?_ ?_
    · refine W.if rfl (fun h => ?_) (fun h => ?_)
      · obtain ⟨ab, ao, rfl⟩ := r.at (by omega)
        refine go ?_
        refine WO.sv rfl ?_
        refine SV.loadR i rfl rds (by omega) (v := .int .i64 (ks.getD i 0)) (by simp [show i < ks.length by omega]) ?_
        refine go ?_
        exact ⟨(), ⟨by show Value.int .i64 _ = _; congr 1; unfold keepN; omega, trivial⟩, rfl, trivial, ent⟩
      · refine go ?_
        refine ⟨(), ⟨?_, trivial⟩, rfl, trivial, ent⟩
        have : keepN ks i = 0 := by unfold keepN; rw [List.getD_eq_getElem?_getD, List.getElem?_eq_none (by omega)]; rfl
        rw [this]; rfl
    rintro _ bg2 _
    refine go ?_
    refine W.drawA rfl (by kernel_rfl) (by kernel_rfl) ?_
    refine go ?_
    refine DA.q (v := strV (ws.take (keepN ks i))) rfl rfl (SV.cutStr rfl rfl (cutAt.of rfl rfl) (Nat.zero_le _) (by omega) (by simp) eqq) ?_
    refine go ?_
    refine DA.q (v := strV s0) rfl rfl (SV.loadR wn rfl (RdS.own tk h1 (by simp [hlk])) (by omega) hget eqq) ?_
    refine go ?_
    refine DA.q (v := strV (s0.drop (keepN ks i))) rfl rfl (SV.cutStr rfl (cutAt.of rfl rfl) rfl (by omega) (Nat.le_refl _) (by simp) eqq) ?_
    refine DA.q (v := strV (ws.take (keepN ks i) ++ s0.drop (keepN ks i))) rfl rfl (SV.concat rfl rfl (by simp; omega) eqq) ?_
    refine go ?_
    refine DA.v rfl rfl rfl ?_
    refine SV.storeO wn (v := strV (ws.take (keepN ks i) ++ s0.drop (keepN ks i))) (xs' := (fallN d.kept d.waits ks (i + 1)).map strV) rfl tk (by omega) rfl rfl (by simp [hlk]; omega) (by rw [hfl, List.map_set]) ?_
    refine go ?_
    exact ⟨i + 1, ⟨rfl, trivial⟩, rfl, by omega, by omega, Ent.app ent⟩
  · intro hlt
    obtain rfl : i = d.waits.length := by omega
    have h1' : SomeA ka (fallN d.kept d.waits ks d.waits.length).length := by rw [hlk]; exact h1
    refine go ?_
    refine WO.callE (vs := [.slice ka d.kept.length kc]) Tryz.func59 rfl rfl rfl rfl (sl_CloneStr ka d.kept.length kc (fallN d.kept d.waits ks d.waits.length) _ (by omega) (RdS.own tk h1 (by simp [hlk]))) ?_
    rintro v M ⟨a5, c5, rfl, h5, rfl⟩
    refine go ?_
    refine ⟨rfl, [], trivial, DevH b ⟨fallN d.kept d.waits ks d.waits.length, fallN d.kept d.waits ks d.waits.length, [], -1, false, d.ops⟩ :: R, ?_, by rw [Dv.fall, if_neg hk0]⟩
    refine DevH.close (ka, kc, a5, c5, none, 0) h1' (by rw [hlk]; exact h5) (fun h => absurd rfl h) ?_
    simp only [dvL, hlk, List.cons_append, List.nil_append]
    exact Ent.take tk (Ent.take tk (Ent.take tk (Ent.ownNil ent)))
end Go.SL

/- Layer 7: a device: Clone; devices that nobody made; the law's own functions. -/
namespace Go.SL
open Go.Proofs
set_option linter.unusedVariables false
set_option linter.unusedSimpArgs false
set_option maxRecDepth 10000
attribute [local irreducible] W WO SV OW SW Tri Ent Tk Has Src SrcK DA DB RdS Own

theorem dv_Clone (b : Nat) (d : Dv) (R : List HP) (ok : d.Ok) (hw : d.waits.length ≤ 1000000) :
    TriE Tryz.prog 128 #[.pointer (some ⟨b, 0, none⟩)]
      (fun v M => (d.kept.length = 0 ∧ v = .pointer none ∧ M = DevH b d :: R) ∨ (d.kept.length ≠ 0 ∧ ∃ b', v = .pointer (some ⟨b', 0, none⟩) ∧ M = DevH b' d :: DevH b d :: R)) (DevH b d :: R) := by
  refine DevH.opens fun x h1 h2 h3 => ?_
  have hc := DevH.close (b := b) (d := d) (R := R) x h1 h2 h3 (Ent.refl _)
  obtain ⟨ka, kc, na, nc, wa, wc⟩ := x
  simp only [dvL, List.cons_append, List.nil_append] at hc ⊢
  refine Tri.of (N := 40) (args := [.pointer (some ⟨b, 0, none⟩)]) Tryz.func128 rfl rfl rfl ?_
  refine go ?_
  refine WO.callE (vs := [.pointer (some ⟨b, 0, none⟩)]) Tryz.func123 rfl rfl rfl rfl (dv_none b _ _ _ _ _ _ _ _ _ (RdS.all rfl)) ?_
  rintro v M ⟨rfl, rfl⟩
  by_cases hk0 : d.kept.length = 0
  · rw [decide_eq_true hk0]
    refine go ?_
    exact ⟨rfl, [_], ⟨Res.tmp rfl, trivial⟩, _, hc, .inl ⟨hk0, rfl, rfl⟩⟩
  rw [decide_eq_false hk0]
  refine go ?_
  have hsz := ok.size
  have hnow := ok.now
  have hlw : (d.waits.flatMap wrV).length = d.waits.length * 2 := flat_len (n := 2) (fun _ => rfl) _
  refine W.drawB #[0, 1, 3, 7, 15, 0, 32, 96, 224, 511, 0, 1024, 3072, 7168, 16383, 0, 32768, 98304, 229376, 0, 524288, 1572864, 3670016, 8388607, 16777215, 33554431]
    [pts b (.cells [Value.slice ka d.kept.length kc, Value.slice na d.now.length nc, Value.slice wa d.waits.length wc, Value.int .i64 d.arm, Value.bool d.down, Value.int .i64 d.ops].toArray 117)]
    (Own 9 1 (.slice ka d.kept.length kc) d.kept.length (d.kept.map strV) :: Own 9 1 (.slice na d.now.length nc) d.now.length (d.now.map strV) :: Own 187 2 (.slice wa d.waits.length wc) d.waits.length (d.waits.flatMap wrV) :: R) rfl (by kernel_rfl) (by kernel_rfl) (by kernel_rfl) (Ent.refl _) ?_
  refine go ?_
  refine DB.callE (vs := [.slice ka d.kept.length kc]) Tryz.func59 rfl rfl rfl rfl hl hl (sl_CloneStr ka d.kept.length kc d.kept _ (by omega) (RdS.own tk h1 (by simp))) ?_
  rintro v M ⟨a1, c1, rfl, s1, rfl⟩
  refine ⟨[], Own 9 1 (.slice a1 d.kept.length c1) d.kept.length (d.kept.map strV) :: Own 9 1 (.slice ka d.kept.length kc) d.kept.length (d.kept.map strV) :: Own 9 1 (.slice na d.now.length nc) d.now.length (d.now.map strV) :: Own 187 2 (.slice wa d.waits.length wc) d.waits.length (d.waits.flatMap wrV) :: R, ent, ?_⟩
  refine go ?_
  refine DB.callE (vs := [.slice na d.now.length nc]) Tryz.func59 rfl rfl rfl rfl hl hl (sl_CloneStr na d.now.length nc d.now _ (by omega) (RdS.own (Tk.there (Tk.there (Tk.there Tk.here))) h2 (by simp))) ?_
  rintro v M ⟨a2, c2, rfl, s2, rfl⟩
  refine ⟨[], Own 9 1 (.slice a2 d.now.length c2) d.now.length (d.now.map strV) :: Own 9 1 (.slice a1 d.kept.length c1) d.kept.length (d.kept.map strV) :: Own 9 1 (.slice ka d.kept.length kc) d.kept.length (d.kept.map strV) :: Own 9 1 (.slice na d.now.length nc) d.now.length (d.now.map strV) :: Own 187 2 (.slice wa d.waits.length wc) d.waits.length (d.waits.flatMap wrV) :: R, ent, ?_⟩
  refine go ?_
  refine DB.callE (vs := [.slice wa d.waits.length wc]) Tryz.func168 rfl rfl rfl rfl hl hl (sl_CloneWr wa d.waits.length wc d.waits _ (by omega) (RdS.own tk h3 hlw)) ?_
  rintro v M ⟨a3, c3, rfl, s3, rfl⟩
  refine ⟨[], Own 187 2 (.slice a3 d.waits.length c3) d.waits.length (d.waits.flatMap wrV) :: Own 9 1 (.slice a2 d.now.length c2) d.now.length (d.now.map strV) :: Own 9 1 (.slice a1 d.kept.length c1) d.kept.length (d.kept.map strV) :: Own 9 1 (.slice ka d.kept.length kc) d.kept.length (d.kept.map strV) :: Own 9 1 (.slice na d.now.length nc) d.now.length (d.now.map strV) :: Own 187 2 (.slice wa d.waits.length wc) d.waits.length (d.waits.flatMap wrV) :: R, ent, ?_⟩
  refine go ?_
  refine DB.box (v := .agg (List.toArray _)) rfl cel rfl ?_
  intro b4
  refine go ?_
  refine ⟨pts b4 (.cells [Value.slice a1 d.kept.length c1, Value.slice a2 d.now.length c2, Value.slice a3 d.waits.length c3, Value.int .i64 d.arm, Value.bool d.down, Value.int .i64 0].toArray 117) :: Own 187 2 (.slice a3 d.waits.length c3) d.waits.length (d.waits.flatMap wrV) :: Own 9 1 (.slice a2 d.now.length c2) d.now.length (d.now.map strV) :: Own 9 1 (.slice a1 d.kept.length c1) d.kept.length (d.kept.map strV) :: pts b (.cells [Value.slice ka d.kept.length kc, Value.slice na d.now.length nc, Value.slice wa d.waits.length wc, Value.int .i64 d.arm, Value.bool d.down, Value.int .i64 d.ops].toArray 117) :: Own 9 1 (.slice ka d.kept.length kc) d.kept.length (d.kept.map strV) :: Own 9 1 (.slice na d.now.length nc) d.now.length (d.now.map strV) :: Own 187 2 (.slice wa d.waits.length wc) d.waits.length (d.waits.flatMap wrV) :: R, ent, ?_⟩
  refine go ?_
  refine W.drawB #[0, 1, 3, 0, 8, 24, 56, 127] [] (pts b4 (.cells [Value.slice a1 d.kept.length c1, Value.slice a2 d.now.length c2, Value.slice a3 d.waits.length c3, Value.int .i64 d.arm, Value.bool d.down, Value.int .i64 0].toArray 117) :: Own 187 2 (.slice a3 d.waits.length c3) d.waits.length (d.waits.flatMap wrV) :: Own 9 1 (.slice a2 d.now.length c2) d.now.length (d.now.map strV) :: Own 9 1 (.slice a1 d.kept.length c1) d.kept.length (d.kept.map strV) :: pts b (.cells [Value.slice ka d.kept.length kc, Value.slice na d.now.length nc, Value.slice wa d.waits.length wc, Value.int .i64 d.arm, Value.bool d.down, Value.int .i64 d.ops].toArray 117) :: Own 9 1 (.slice ka d.kept.length kc) d.kept.length (d.kept.map strV) :: Own 9 1 (.slice na d.now.length nc) d.now.length (d.now.map strV) :: Own 187 2 (.slice wa d.waits.length wc) d.waits.length (d.waits.flatMap wrV) :: R) rfl (by kernel_rfl) (by kernel_rfl) (by kernel_rfl) (Ent.refl _) ?_
  refine go ?_
  refine DB.callE (vs := [.pointer (some ⟨b, 0 + 5, none⟩)]) Tryz.func170 rfl rfl rfl rfl hl hl (at_Load (x := d.ops) rfl) ?_
  rintro v M ⟨rfl, rfl⟩
  refine ⟨[], _, Ent.refl _, ?_⟩
  refine DB.callE (vs := [.pointer (some ⟨b4, 0 + 5, none⟩), .int .i64 d.ops]) Tryz.func169 rfl rfl rfl rfl hl hl (at_Store b4 (0 + 5) _ _ _ d.ops _ (by simp) nl) ?_
  rintro v M rfl
  refine ⟨[], _, Ent.refl _, ?_⟩
  refine go ?_
  refine ⟨_, Ent.refl _, ?_⟩
  refine go ?_
  refine ⟨rfl, [_], ⟨Res.tmp rfl, trivial⟩, DevH b4 d :: DevH b d :: R, ?_, .inr ⟨hk0, b4, rfl, rfl⟩⟩
  refine DevH.close (a1, c1, a2, c2, a3, c3) s1 s2 s3 ?_
  simp only [dvL, List.cons_append, List.nil_append]
  exact Ent.take tk (Ent.take tk (Ent.take tk (Ent.take tk hc)))

/-! a device that nobody made -/
theorem dv_Down0 (R : List HP) : TriE Tryz.prog 73 #[.pointer none] (fun v M => v = .bool false ∧ M = R) R := by
  refine Tri.of (N := 12) (args := [.pointer none]) Tryz.func73 rfl rfl rfl ?_
  refine go ?_
  refine WO.callE (vs := [.pointer none]) Tryz.func123 rfl rfl rfl rfl (dv_none0 _) ?_
  rintro v M ⟨rfl, rfl⟩
  refine go ?_
  exact ⟨rfl, [_], ⟨Res.tmp rfl, trivial⟩, _, ent, rfl, rfl⟩
theorem dv_Arm0 (n : Int) (R : List HP) : TriE Tryz.prog 129 #[.pointer none, .int .i64 n] (fun v M => M = R) R := by
  refine Tri.of (N := 12) (args := [.pointer none, .int .i64 n]) Tryz.func129 rfl rfl rfl ?_
  refine go ?_
  refine WO.callE (vs := [.pointer none]) Tryz.func123 rfl rfl rfl rfl (dv_none0 _) ?_
  rintro v M ⟨rfl, rfl⟩
  refine go ?_
  exact ⟨rfl, [], trivial, _, ent, rfl⟩
theorem dv_Fall0 (x : Value) (R : List HP) : TriE Tryz.prog 67 #[.pointer none, x] (fun v M => M = R) R := by
  refine Tri.of (N := 69) (args := [.pointer none, x]) Tryz.func67 rfl rfl rfl ?_
  refine go ?_
  refine WO.callE (vs := [.pointer none]) Tryz.func123 rfl rfl rfl rfl (dv_none0 _) ?_
  rintro v M ⟨rfl, rfl⟩
  refine go ?_
  exact ⟨rfl, [], trivial, _, ent, rfl⟩
theorem dv_Clone0 (R : List HP) : TriE Tryz.prog 128 #[.pointer none] (fun v M => v = .pointer none ∧ M = R) R := by
  refine Tri.of (N := 40) (args := [.pointer none]) Tryz.func128 rfl rfl rfl ?_
  refine go ?_
  refine WO.callE (vs := [.pointer none]) Tryz.func123 rfl rfl rfl rfl (dv_none0 _) ?_
  rintro v M ⟨rfl, rfl⟩
  refine go ?_
  exact ⟨rfl, [_], ⟨Res.tmp rfl, trivial⟩, _, ent, rfl, rfl⟩
theorem dv_Read0 (n : Int) (R : List HP) : TriE Tryz.prog 81 #[.pointer none, .int .i64 n] (fun v M => v = .tuple #[.slice none 0 0, .int .i64 1] ∧ M = R) R := by
  refine Tri.of (N := 27) (args := [.pointer none, .int .i64 n]) Tryz.func81 rfl rfl rfl ?_
  refine go ?_
  refine WO.callE (vs := [.pointer none, .int .i64 n]) Tryz.func138 rfl rfl rfl rfl (dv_is0 n _) ?_
  rintro v M ⟨rfl, rfl⟩
  refine go ?_
  refine WO.callE (vs := [.pointer none, .bool false]) Tryz.func137 rfl rfl rfl rfl (dv_call0 false _) ?_
  rintro v M ⟨rfl, rfl⟩
  refine go ?_
  exact ⟨rfl, [_, _], ⟨Res.tmp rfl, Res.tmp rfl, trivial⟩, _, ent, rfl, rfl⟩
theorem dv_Write0 (n : Int) (x : Value) (R : List HP) : TriE Tryz.prog 103 #[.pointer none, .int .i64 n, x] (fun v M => v = .int .i64 1 ∧ M = R) R := by
  refine Tri.of (N := 47) (args := [.pointer none, .int .i64 n, x]) Tryz.func103 rfl rfl rfl ?_
  refine go ?_
  refine WO.callE (vs := [.pointer none, .int .i64 n]) Tryz.func138 rfl rfl rfl rfl (dv_is0 n _) ?_
  rintro v M ⟨rfl, rfl⟩
  refine go ?_
  refine WO.callE (vs := [.pointer none, .bool false]) Tryz.func137 rfl rfl rfl rfl (dv_call0 false _) ?_
  rintro v M ⟨rfl, rfl⟩
  refine go ?_
  exact ⟨rfl, [_], ⟨Res.tmp rfl, trivial⟩, _, ent, rfl, rfl⟩
theorem dv_Flush0 (R : List HP) : TriE Tryz.prog 104 #[.pointer none] (fun v M => v = .int .i64 1 ∧ M = R) R := by
  refine Tri.of (N := 33) (args := [.pointer none]) Tryz.func104 rfl rfl rfl ?_
  refine go ?_
  refine WO.callE (vs := [.pointer none, .bool true]) Tryz.func137 rfl rfl rfl rfl (dv_call0 true _) ?_
  rintro v M ⟨rfl, rfl⟩
  refine go ?_
  exact ⟨rfl, [_], ⟨Res.tmp rfl, trivial⟩, _, ent, rfl, rfl⟩

/-! a block all bytes of which are one -/
theorem list_fill {c : Value} (k m : Nat) (z : Value) (h : k < m) : (List.replicate k c ++ List.replicate (m - k) z).set k c = List.replicate (k + 1) c ++ List.replicate (m - (k + 1)) z := by
  rw [List.set_append_right _ _ (by simp), List.length_replicate, Nat.sub_self]
  obtain ⟨j, rfl⟩ : ∃ j, m = k + 1 + j := ⟨m - (k + 1), by omega⟩
  rw [show k + 1 + j - k = j + 1 by omega, show k + 1 + j - (k + 1) = j by omega, List.replicate_succ, List.set_cons_zero, List.replicate_succ', List.append_assoc]; rfl
end Go.SL

/- Layer 7: the law DevNobody, walked. -/
namespace Go.SL
open Go.Proofs
set_option linter.unusedVariables false
set_option linter.unusedSimpArgs false
set_option maxRecDepth 10000
attribute [local irreducible] W WO SV OW SW Tri Ent Tk Has Src SrcK DA DB RdS Own

def rep (c : UInt8) : Byt := List.replicate 256 c
theorem rep_len (c : UInt8) : (rep c).length = 256 := List.length_replicate
def o1 : Dv := ((Dv.new 2).put 0 (rep 1)).1
def o2 : Dv := o1.flush.1
def o3 : Dv := (o2.put 0 (rep 2)).1
def o4 : Dv := (o3.put 1 (rep 3)).1
def o5 : Dv := o4.fall [1]
theorem o_ok : o1.Ok ∧ o2.Ok ∧ o3.Ok ∧ o4.Ok ∧ o5.Ok := by
  have h1 : o1.Ok := Dv.put_ok (Dv.new_ok (by decide)) _ _
  have h2 : o2.Ok := Dv.flush_ok h1
  have h3 : o3.Ok := Dv.put_ok h2 _ _
  have h4 : o4.Ok := Dv.put_ok h3 _ _
  exact ⟨h1, h2, h3, h4, Dv.fall_ok h4 _⟩
theorem o_w : (Dv.new 2).waits.length ≤ 1000000 ∧ o1.waits.length ≤ 1000000 ∧ o2.waits.length ≤ 1000000 ∧ o3.waits.length ≤ 1000000 ∧ o4.waits.length ≤ 1000000 := by
  refine ⟨?_, ?_, ?_, ?_, ?_⟩ <;> decide +kernel
theorem o_r0 : (o5.read 0).2 = 0 := by decide +kernel
theorem o_r1 : ((o5.read 0).1.read 1).2 = 0 := by decide +kernel
theorem o_s0 : ∃ t, o5.now.getD (0 : Int).toNat [] = 2 :: 1 :: t := ⟨List.replicate 254 1, by decide +kernel⟩
theorem o_s1 : ∃ t, (o5.read 0).1.now.getD (1 : Int).toNat [] = 0 :: t := ⟨List.replicate 255 0, by decide +kernel⟩
theorem o_5 : (o5.now.getD (0 : Int).toNat []).length = 256 ∧ ((o5.read 0).1.now.getD (1 : Int).toNat []).length = 256 := by constructor <;> decide +kernel

def Dv.zero : Dv := ⟨[], [], [], 0, false, 0⟩
theorem Dv.zero_ok : Dv.zero.Ok := ⟨rfl, by decide, fun s h => (by cases h), fun s h => (by cases h), fun w h => (by cases h), by decide, rfl⟩
theorem DevH.zero (b : Nat) (L : List HP) : Ent (pts b (.cells [Value.slice none 0 0, Value.slice none 0 0, Value.slice none 0 0, Value.int .i64 0, Value.bool false, Value.int .i64 0].toArray 117) :: L) (DevH b Dv.zero :: L) :=
  DevH.close (none, 0, none, 0, none, 0) (fun h => absurd rfl h) (fun h => absurd rfl h) (fun h => absurd rfl h) (Ent.take tk (Ent.ownNil (Ent.ownNil (Ent.ownNil (Ent.refl _)))))
end Go.SL

/- Layer 7: the law DevNobody, walked. -/
namespace Go.SL
open Go.Proofs
set_option linter.unusedVariables false
set_option linter.unusedSimpArgs false
set_option maxRecDepth 10000
attribute [local irreducible] W WO SV OW SW Tri Ent Tk Has Src SrcK DA DB RdS Own

theorem dv_LenH (b : Nat) (d : Dv) (R : List HP) : TriE Tryz.prog 72 #[.pointer (some ⟨b, 0, none⟩)] (fun v M => v = .int .i64 d.kept.length ∧ M = DevH b d :: R) (DevH b d :: R) := by
  refine DevH.opens fun x h1 h2 h3 => ?_
  have hc := DevH.close (b := b) (R := R) x h1 h2 h3 (Ent.refl _)
  obtain ⟨ka, kc, na, nc, wa, wc⟩ := x
  simp only [dvL, List.cons_append, List.nil_append] at hc ⊢
  refine Tri.mono (dv_Len b d.kept.length kc ka _ _ _ _ _ _ (RdS.all rfl)) ?_
  rintro v L' ⟨M, e, rfl, rfl⟩
  exact ⟨_, Ent.trans e hc, rfl, rfl⟩

end Go.SL

/- Layer 9: a head is saved, walked. -/
namespace Go.SL
open Go.Proofs
set_option linter.unusedVariables false
set_option linter.unusedSimpArgs false
set_option maxRecDepth 10000
set_option maxHeartbeats 4000000
attribute [local irreducible] W WO SV OW SW Tri Ent Tk Has Src SrcK DA DB RdS Own DevH

def saveS (d : Dv) (h : Hd) : Dv × Int :=
  if d.kept.length = 0 then (d, 1) else if HdR h d.kept.length then (if (d.put ((h.gen % 2 : Nat) : Int) h.put).2 = 0 then (d.put ((h.gen % 2 : Nat) : Int) h.put).1.flush else d.put ((h.gen % 2 : Nat) : Int) h.put) else (d, 2)
theorem HdR.mono {h : Hd} {b c : Int} (r : HdR h b) (e : b ≤ c) : HdR h c := by unfold HdR at *; omega
theorem put_waits (d : Dv) (n : Int) (s : Byt) : (d.put n s).1.waits.length ≤ d.waits.length + 1 := by
  unfold Dv.put
  split
  · simp
  · unfold Dv.call
    split
    · simp
    · split <;> simp
theorem h9_Save (b : Nat) (d : Dv) (h : Hd) (R : List HP) (ok : d.Ok) (hw : d.waits.length ≤ 100000) (fit : h.Fit) :
    TriE Tryz.prog 119 #[.pointer (some ⟨b, 0, none⟩), .agg h.L.toArray] (fun v M => v = .int .i64 (saveS d h).2 ∧ M = DevH b (saveS d h).1 :: R) (DevH b d :: R) := by
  have hlen := ok.size
  have hRi := fun L => h9_Right h d.kept.length L (by omega)
  have hSl := fun L => h9_slot h L
  have hPu := fun L => h9_Put h L fit
  have hpl : h.put.length = 256 := sealB_len (h.enc_len fit)
  unfold saveS
  obtain ⟨g, e, p, s, l⟩ := h
  generalize hHp : Hd.put ⟨g, e, p, s, l⟩ = hp at *
  refine Tri.of (N := 33) (args := [.pointer (some ⟨b, 0, none⟩), .agg (hdL g e p s l).toArray]) Tryz.func119 rfl rfl rfl ?_
  refine go ?_
  intro b3
  refine go ?_
  refine WO.callE (vs := [.pointer (some ⟨b, 0, none⟩)]) Tryz.func72 rfl rfl rfl rfl (TriE.ent ent (dv_LenH b d (pts b3 (.cells (hdL g e p s l).toArray 137) :: R))) ?_
  rintro v M ⟨rfl, rfl⟩
  by_cases h0 : d.kept.length = 0
  · rw [if_pos h0]
    refine go ?_
    exact ⟨rfl, [_], ⟨Res.tmp rfl, trivial⟩, DevH b d :: R, ent, rfl, rfl⟩
  rw [if_neg h0]
  refine go ?_
  refine W.drawB #[0, 0, 2, 7, 15, 31] [pts b3 (.cells (hdL g e p s l).toArray 137)] (DevH b d :: R) rfl (by kernel_rfl) (by kernel_rfl) (by kernel_rfl) ent ?_
  refine go ?_
  refine DB.callE (vs := [.pointer (some ⟨b, 0, none⟩)]) Tryz.func72 rfl rfl rfl rfl hl hl (TriE.ent ent (dv_LenH b d (pts b3 (.cells (hdL g e p s l).toArray 137) :: R))) ?_
  rintro v M ⟨rfl, rfl⟩
  refine ⟨[], DevH b d :: R, ent, ?_⟩
  refine go ?_
  refine DB.callE (vs := [.agg (hdL g e p s l).toArray, .int .i64 d.kept.length]) Tryz.func118 rfl rfl rfl rfl hl hl (hRi _) ?_
  rintro v M ⟨rfl, rfl⟩
  refine ⟨[], DevH b d :: R, ent, ?_⟩
  by_cases hr : HdR ⟨g, e, p, s, l⟩ d.kept.length
  rotate_left
  · rw [decide_eq_false hr, if_neg hr]
    refine go ?_
    refine ⟨DevH b d :: R, ent, ?_⟩
    refine go ?_
    exact ⟨rfl, [_], ⟨Res.tmp rfl, trivial⟩, DevH b d :: R, ent, rfl, rfl⟩
  rw [decide_eq_true hr, if_pos hr]
  have hr2 := hr.mono (c := 4096) (by omega)
  refine go ?_
  refine ⟨DevH b d :: pts b3 (.cells (hdL g e p s l).toArray 137) :: R, ent, ?_⟩
  refine go ?_
  refine WO.callE (vs := [.agg (hdL g e p s l).toArray]) Tryz.func159 rfl rfl rfl rfl (hPu _) ?_
  rintro v M (⟨h, _⟩ | ⟨_, a5, c5, rfl, s5, rfl⟩)
  · exact absurd hr2 h
  refine go ?_
  refine WO.callE (vs := [.agg (hdL g e p s l).toArray]) Tryz.func127 rfl rfl rfl rfl (hSl _) ?_
  rintro v M ⟨rfl, rfl⟩
  refine go ?_
  refine WO.callE (vs := [.pointer (some ⟨b, 0, none⟩), .int .i64 ((g % 2 : Nat) : Int), .slice a5 hp.length c5]) Tryz.func103 rfl rfl rfl rfl
    (TriE.ent ent (dv_Write b d ((g % 2 : Nat) : Int) a5 c5 hp (OS a5 c5 hp :: pts b3 (.cells (hdL g e p s l).toArray 137) :: R) ok (by omega) (by omega) (OS.rd Tk.here s5))) ?_
  rintro v M ⟨rfl, rfl⟩
  have hpw := put_waits d ((g % 2 : Nat) : Int) hp
  have hpo := Dv.put_ok ok ((g % 2 : Nat) : Int) hp
  dsimp only
  generalize d.put ((g % 2 : Nat) : Int) hp = w at *
  by_cases hz : w.2 = 0
  rotate_left
  · rw [if_neg hz]
    refine go ?_
    exact ⟨rfl, [_], ⟨Res.tmp rfl, trivial⟩, DevH b w.1 :: R, ent, rfl, rfl⟩
  rw [if_pos hz]
  refine go ?_
  refine WO.callE (vs := [.pointer (some ⟨b, 0, none⟩)]) Tryz.func104 rfl rfl rfl rfl (dv_Flush b w.1 _ hpo (by omega)) ?_
  rintro v M ⟨rfl, rfl⟩
  refine go ?_
  exact ⟨rfl, [_], ⟨Res.tmp rfl, trivial⟩, DevH b w.1.flush.1 :: R, ent, rfl, rfl⟩
end Go.SL

/- Layer 9: a head is loaded, walked. -/
namespace Go.SL
open Go.Proofs
set_option linter.unusedVariables false
set_option linter.unusedSimpArgs false
set_option maxRecDepth 10000
set_option maxHeartbeats 4000000
attribute [local irreducible] W WO SV OW SW Tri Ent Tk Has Src SrcK DA DB RdS Own DevH

/-- The greater head, of a block that may be one. -/
def pickH (last : Hd) (s : Byt) (n : Nat) (len : Int) : Hd := if hdOk s len = true ∧ (hdOf s len).gen % 2 = n ∧ last.gen < (hdOf s len).gen then hdOf s len else last
def loadN (d : Dv) : Nat → Dv × Hd × Int
  | 0 => (d, Hd.zero, 0)
  | n + 1 => if (loadN d n).2.2 ≠ 0 then loadN d n else if ((loadN d n).1.read n).2 ≠ 0 then (((loadN d n).1.read n).1, Hd.zero, ((loadN d n).1.read n).2) else
      (((loadN d n).1.read n).1, pickH (loadN d n).2.1 ((loadN d n).1.now.getD n []) n d.kept.length, 0)
def loadS (d : Dv) : Dv × Hd × Int :=
  if d.kept.length = 0 then (d, Hd.zero, 1) else
    if (loadN d (min 2 d.kept.length)).2.2 ≠ 0 then loadN d (min 2 d.kept.length)
    else if (loadN d (min 2 d.kept.length)).2.1.gen = 0 then ((loadN d (min 2 d.kept.length)).1, Hd.zero, 13) else loadN d (min 2 d.kept.length)
theorem read_kept (d : Dv) (n : Int) : (d.read n).1.kept = d.kept ∧ (d.read n).1.now = d.now ∧ (d.read n).1.waits = d.waits := by
  unfold Dv.read Dv.call
  split
  · exact ⟨rfl, rfl, rfl⟩
  · split <;> exact ⟨rfl, rfl, rfl⟩
theorem pickH_ok {last : Hd} {s : Byt} {n : Nat} {len : Int} (h : last = Hd.zero ∨ 1 ≤ last.gen) : pickH last s n len = Hd.zero ∨ 1 ≤ (pickH last s n len).gen := by
  unfold pickH
  split
  · rename_i g; right; omega
  · exact h
theorem loadN_ok (d : Dv) (ok : d.Ok) : ∀ n, (loadN d n).1.Ok ∧ (loadN d n).1.kept = d.kept ∧ (loadN d n).1.now = d.now ∧ (loadN d n).1.waits = d.waits ∧ ((loadN d n).2.1 = Hd.zero ∨ 1 ≤ (loadN d n).2.1.gen)
  | 0 => ⟨ok, rfl, rfl, rfl, .inl rfl⟩
  | n + 1 => by
    obtain ⟨a, b, c, d', e⟩ := loadN_ok d ok n
    obtain ⟨r1, r2, r3⟩ := read_kept (loadN d n).1 n
    unfold loadN
    split
    · exact ⟨a, b, c, d', e⟩
    · split
      · exact ⟨Dv.call_ok a _, r1.trans b, r2.trans c, r3.trans d', .inl rfl⟩
      · exact ⟨Dv.call_ok a _, r1.trans b, r2.trans c, r3.trans d', pickH_ok e⟩
theorem loadN_err (d : Dv) : ∀ n, (loadN d n).2.2 ≠ 0 → (loadN d n).2.1 = Hd.zero
  | 0, h => absurd rfl h
  | n + 1, h => by
    unfold loadN at h ⊢
    split at h
    · rename_i g; rw [if_pos g]; exact loadN_err d n g
    · rename_i g
      rw [if_neg g]
      split at h
      · rename_i g2; rw [if_pos g2]
      · exact absurd rfl h
theorem h9_Load (b : Nat) (d : Dv) (R : List HP) (ok : d.Ok) :
    TriE Tryz.prog 74 #[.pointer (some ⟨b, 0, none⟩)] (fun v M => v = .tuple #[.agg (loadS d).2.1.L.toArray, .int .i64 (loadS d).2.2] ∧ M = DevH b (loadS d).1 :: R) (DevH b d :: R) := by
  have hlen := ok.size
  have hzl : Hd.zero.L = hdL 0 0 0 0 0 := rfl
  refine Tri.of (N := 58) (args := [.pointer (some ⟨b, 0, none⟩)]) Tryz.func74 rfl rfl rfl ?_
  refine go ?_
  intro b2
  refine go ?_
  refine WO.callE (vs := [.pointer (some ⟨b, 0, none⟩)]) Tryz.func72 rfl rfl rfl rfl (TriE.ent ent (dv_LenH b d (pts b2 (.cells (hdL 0 0 0 0 0).toArray 137) :: R))) ?_
  rintro v M ⟨rfl, rfl⟩
  by_cases h0 : d.kept.length = 0
  · have e : loadS d = (d, Hd.zero, 1) := by unfold loadS; rw [if_pos h0]
    rw [e]
    refine go ?_
    exact ⟨rfl, [_, _], ⟨Res.cell rfl le0 nl, Res.tmp rfl, trivial⟩, DevH b d :: R, ent, rfl, rfl⟩
  refine go ?_
  intro b4
  refine go ?_
  refine WO.callE (vs := [.pointer (some ⟨b, 0, none⟩)]) Tryz.func72 rfl rfl rfl rfl (TriE.ent ent (dv_LenH b d (pts b4 (.cells (hdL 0 0 0 0 0).toArray 137) :: pts b2 (.cells (hdL 0 0 0 0 0).toArray 137) :: R))) ?_
  rintro v M ⟨rfl, rfl⟩
  have hmin : min (2 : Int) (d.kept.length : Int) = ((min 2 d.kept.length : Nat) : Int) := by omega
  have hS : loadS d = if (loadN d (min 2 d.kept.length)).2.2 ≠ 0 then loadN d (min 2 d.kept.length)
    else if (loadN d (min 2 d.kept.length)).2.1.gen = 0 then ((loadN d (min 2 d.kept.length)).1, Hd.zero, 13) else loadN d (min 2 d.kept.length) := by unfold loadS; rw [if_neg h0]
  have hm2 : min 2 d.kept.length ≤ d.kept.length := by omega
  have hstay : ∀ n m, n ≤ m → (loadN d n).2.2 ≠ 0 → loadN d m = loadN d n := by
    intro n m h hne
    obtain ⟨k, rfl⟩ : ∃ k, m = n + k := ⟨m - n, by omega⟩
    clear h
    induction k with
    | zero => rfl
    | succ k ih =>
      rw [show n + (k + 1) = (n + k) + 1 by omega]
      conv => lhs; unfold loadN
      rw [ih, if_pos hne]
  refine go ?_
  refine W.loopS 9007199254610920 rfl (fun n : Nat => [(17, .int .i64 (n : Int))]) (fun n => DevH b (loadN d n).1 :: pts b4 (.cells (loadN d n).2.1.L.toArray 137) :: pts b2 (.cells (hdL 0 0 0 0 0).toArray 137) :: R) (fun n => n ≤ min 2 d.kept.length ∧ (loadN d n).2.2 = 0) (fun n => 2 - n) 0 ⟨rfl, trivial⟩ ⟨Nat.zero_le _, rfl⟩ (Ent.app ent) ?_
  rintro n bg ⟨hn, he⟩
  obtain ⟨k1, k2, k3, k4, k5⟩ := loadN_ok d ok n
  have hn1 : loadN d (n + 1) = if (loadN d n).2.2 ≠ 0 then loadN d n else if ((loadN d n).1.read n).2 ≠ 0 then (((loadN d n).1.read n).1, Hd.zero, ((loadN d n).1.read n).2) else
      (((loadN d n).1.read n).1, pickH (loadN d n).2.1 ((loadN d n).1.now.getD n []) n d.kept.length, 0) := rfl
  rw [if_neg (by rw [he]; simp)] at hn1
  by_cases hlt : n < min 2 d.kept.length
  · have hst := hstay (n + 1) (min 2 d.kept.length) (by omega)
    generalize loadN d n = x at *
    obtain ⟨x1, ⟨lg, lE, lp, lq, ll⟩, xe⟩ := x
    dsimp only at he k1 k2 k3 k4 k5 hn1
    dsimp only [Hd.L]
    obtain ⟨r1, r2, r3⟩ := read_kept x1 n
    have hR := fun R => dv_Read b x1 n R k1
    have hsl : (x1.now.getD n []).length = 256 := by
      have h1 : n < x1.now.length := by rw [k1.now, k2]; omega
      have : x1.now.getD n [] = x1.now[n] := by simp [h1]
      rw [this]
      exact k1.n256 _ (List.getElem_mem h1)
    rw [Int.toNat_natCast] at hR
    generalize x1.now.getD n [] = s at *
    generalize x1.read n = r at *
    refine go ?_
    refine WO.callE (vs := [.pointer (some ⟨b, 0, none⟩), .int .i64 n]) Tryz.func81 rfl rfl rfl rfl (hR _) ?_
    rintro v M (⟨g1, rfl, rfl⟩ | ⟨g1, a6, c6, rfl, s6, rfl⟩)
    · rw [if_pos g1] at hn1
      rw [hn1] at hst
      have hst := hst g1
      rw [hst, if_pos g1] at hS
      rw [hS]
      refine go ?_
      exact ⟨rfl, [_, _], ⟨Res.cell rfl le0 nl, Res.tmp rfl, trivial⟩, DevH b r.1 :: R, ent, rfl, rfl⟩
    · rw [if_neg (fun g => g g1)] at hn1
      rw [← hsl] at s6 ⊢
      refine go ?_
      refine WO.ownCap (E := 5) (sz := 1) (n := s.length) (xs := s.map u8V) (show Tk _ (OS a6 c6 s) _ from tk) fun hcap => ?_
      refine WO.callE (vs := [.pointer (some ⟨b, 0, none⟩)]) Tryz.func72 rfl rfl rfl rfl (TriE.ent ent (dv_LenH b r.1 (OS a6 c6 s :: pts b4 (.cells (hdL lg lE lp lq ll).toArray 137) :: pts b2 (.cells (hdL 0 0 0 0 0).toArray 137) :: R))) ?_
      rintro v M ⟨rfl, rfl⟩
      rw [r1, k2]
      refine WO.callE (vs := [.slice a6 s.length c6, .int .i64 d.kept.length]) Tryz.func126 rfl rfl rfl rfl (TriE.ent ent (h9_Of (OS a6 c6 s) a6 c6 s d.kept.length (DevH b r.1 :: pts b4 (.cells (hdL lg lE lp lq ll).toArray 137) :: pts b2 (.cells (hdL 0 0 0 0 0).toArray 137) :: R) (by omega) (by omega) hcap (OS.rd Tk.here s6))) ?_
      rintro v M ⟨rfl, rfl⟩
      have hslt := fun L => h9_slot (hdOf s d.kept.length) L
      have hpk : pickH ⟨lg, lE, lp, lq, ll⟩ s n d.kept.length = if hdOk s d.kept.length = true ∧ (hdOf s d.kept.length).gen % 2 = n ∧ lg < (hdOf s d.kept.length).gen then hdOf s d.kept.length else ⟨lg, lE, lp, lq, ll⟩ := rfl
      rw [hpk] at hn1
      generalize hdOf s d.kept.length = hh at *
      generalize hdOk s d.kept.length = hok at *
      obtain ⟨g, e, p, q, l⟩ := hh
      dsimp only at hn1
      dsimp only [Hd.L] at hslt ⊢
      refine go ?_
      intro b8
      cases hok with
      | false =>
        rw [if_neg (by simp)] at hn1
        refine go ?_
        refine ⟨n + 1, ⟨rfl, trivial⟩, rfl, ⟨by omega, by rw [hn1]⟩, by omega, Ent.app ?_⟩
        rw [hn1]
        exact ent
      | true =>
        refine go ?_
        refine WO.callE (vs := [.agg (hdL g e p q l).toArray]) Tryz.func127 rfl rfl rfl rfl (hslt _) ?_
        rintro v M ⟨rfl, rfl⟩
        by_cases hg : g % 2 = n
        · by_cases hgt : lg < g
          · rw [if_pos ⟨rfl, hg, hgt⟩] at hn1
            refine go ?_
            refine ⟨n + 1, ⟨rfl, trivial⟩, rfl, ⟨by omega, by rw [hn1]⟩, by omega, Ent.app ?_⟩
            rw [hn1]
            exact ent
          · rw [if_neg (fun z => hgt z.2.2)] at hn1
            refine go ?_
            refine ⟨n + 1, ⟨rfl, trivial⟩, rfl, ⟨by omega, by rw [hn1]⟩, by omega, Ent.app ?_⟩
            rw [hn1]
            exact ent
        · rw [if_neg (fun z => hg z.2.1)] at hn1
          refine go ?_
          refine ⟨n + 1, ⟨rfl, trivial⟩, rfl, ⟨by omega, by rw [hn1]⟩, by omega, Ent.app ?_⟩
          rw [hn1]
          exact ent
  · obtain rfl : n = min 2 d.kept.length := by omega
    rw [if_neg (by rw [he]; simp)] at hS
    rw [hS]
    clear hS hn1 hstay
    generalize loadN d (min 2 d.kept.length) = x at *
    obtain ⟨x1, ⟨lg, lE, lp, lq, ll⟩, xe⟩ := x
    dsimp only at he k1 k2 k3 k4 k5
    dsimp only [Hd.L]
    subst he
    by_cases hz : lg = 0
    · have hk := k5.resolve_right (by omega)
      injection hk with q1 q2 q3 q4 q5
      subst q1; subst q2; subst q3; subst q4; subst q5
      rw [if_pos rfl]
      refine go ?_
      refine WO.sv rfl ?_
      refine SV.eqlSt (xs := hdL 0 0 0 0 0) (ys := hdL 0 0 0 0 0) (b := true) rfl rfl rfl rfl rfl (sEq_self _) ?_
      refine go ?_
      exact ⟨rfl, [_, _], ⟨Res.cell rfl le0 nl, Res.tmp rfl, trivial⟩, DevH b x1 :: R, ent, rfl, rfl⟩
    · rw [if_neg hz]
      refine go ?_
      refine WO.sv rfl ?_
      refine SV.eqlSt (xs := hdL lg lE lp lq ll) (ys := hdL 0 0 0 0 0) (b := false) rfl rfl rfl rfl rfl (by
        have : ¬((lg : Int) = ((0 : Nat) : Int)) := by omega
        simp only [hdL, sEq]
        rw [decide_eq_false this, Bool.false_and]) ?_
      refine go ?_
      exact ⟨rfl, [_, _], ⟨Res.cell rfl le0 nl, Res.tmp rfl, trivial⟩, DevH b x1 :: R, ent, rfl, rfl⟩
end Go.SL

/- Layer 7: the law DevKeeps, walked. -/
namespace Go.SL
open Go.Proofs
set_option linter.unusedVariables false
set_option linter.unusedSimpArgs false
set_option maxRecDepth 10000
set_option maxHeartbeats 4000000
attribute [local irreducible] W WO SV OW SW Tri Ent Tk Has Src SrcK DA DB RdS Own

/-- No call falls. -/
structure Dv.Calm (d : Dv) : Prop where
  ok : d.Ok
  some : d.kept.length ≠ 0
  arm : d.arm = -1
  down : d.down = false
theorem Dv.call_calm {d : Dv} (h : d.Calm) : d.call true = ({ d with ops := IntKind.i64.wrap (d.ops + 1) }, 0) := by
  obtain ⟨_, h1, h2, h3⟩ := h
  obtain ⟨kept, now, waits, arm, down, ops⟩ := d
  simp only at h1 h2 h3
  subst h2; subst h3
  unfold Dv.call
  rw [if_neg h1, if_neg (by decide)]
  rfl
theorem Dv.is_of {d : Dv} {n : Int} (h : 0 ≤ n ∧ n < d.kept.length) : d.is n = true := by
  unfold Dv.is; rw [decide_eq_true h.1, decide_eq_true h.2]; rfl
theorem Dv.read_calm {d : Dv} (h : d.Calm) {n : Int} (hn : 0 ≤ n ∧ n < d.kept.length) : d.read n = ({ d with ops := IntKind.i64.wrap (d.ops + 1) }, 0) := by
  unfold Dv.read; rw [Dv.is_of hn, Dv.call_calm h]
theorem Dv.put_calm {d : Dv} (h : d.Calm) {n : Int} {s : Byt} (hn : 0 ≤ n ∧ n < d.kept.length) (hs : s.length = 256) :
    d.put n s = ({ d with ops := IntKind.i64.wrap (d.ops + 1), now := d.now.set n.toNat s, waits := d.waits ++ [(n.toNat, s)] }, 0) := by
  unfold Dv.put; rw [Dv.is_of hn, decide_eq_true hs, Bool.true_and, Dv.call_calm h, if_pos rfl]
theorem Dv.flush_calm {d : Dv} (h : d.Calm) : d.flush = ({ d with ops := IntKind.i64.wrap (d.ops + 1), kept := d.now, waits := [] }, 0) := by
  unfold Dv.flush; rw [Dv.call_calm h, if_pos rfl, h.ok.sync]
theorem Dv.Calm.ops {d : Dv} (h : d.Calm) (n : Int) : ({ d with ops := n } : Dv).Calm := ⟨⟨h.ok.now, h.ok.size, h.ok.k256, h.ok.n256, h.ok.w256, h.ok.arm, h.ok.sync⟩, h.some, h.arm, h.down⟩
theorem Dv.Calm.read {d : Dv} (h : d.Calm) {n : Int} (hn : 0 ≤ n ∧ n < d.kept.length) : (d.read n).1.Calm := by rw [Dv.read_calm h hn]; exact h.ops _
theorem Dv.Calm.put {d : Dv} (h : d.Calm) {n : Int} {s : Byt} (hn : 0 ≤ n ∧ n < d.kept.length) (hs : s.length = 256) : (d.put n s).1.Calm := by
  refine ⟨Dv.put_ok h.ok n s, ?_, ?_, ?_⟩ <;> rw [Dv.put_calm h hn hs]
  · exact h.some
  · exact h.arm
  · exact h.down
theorem Dv.Calm.flush {d : Dv} (h : d.Calm) : d.flush.1.Calm := by
  refine ⟨Dv.flush_ok h.ok, ?_, ?_, ?_⟩ <;> rw [Dv.flush_calm h]
  · show d.now.length ≠ 0; rw [h.ok.now]; exact h.some
  · exact h.arm
  · exact h.down
theorem Dv.Calm.new {n : Nat} (h : 1 ≤ n) (h' : n ≤ 4096) : (Dv.new n).Calm := ⟨Dv.new_ok h', by simp [Dv.new]; omega, rfl, rfl⟩
theorem Dv.Calm.fall {d : Dv} (ok : d.Ok) (h : d.kept.length ≠ 0) (ks : List Int) : (d.fall ks).Calm := by
  refine ⟨Dv.fall_ok ok ks, ?_, ?_, ?_⟩ <;> rw [Dv.fall, if_neg h]
  rw [fallN_len]; exact h
theorem getD_setL {l : List Byt} {k j : Nat} {u : Byt} (hk : k < l.length) : (l.set k u).getD j [] = if j = k then u else l.getD j [] := by
  simp only [List.getD_eq_getElem?_getD, List.getElem?_set]
  by_cases h : k = j
  · subst h; simp [hk]
  · have h' : ¬ j = k := fun e => h e.symm
    simp [h, h']
theorem getD_setB {l : List Bool} {k j : Nat} {u : Bool} (hk : k < l.length) : (l.set k u).getD j false = if j = k then u else l.getD j false := by
  simp only [List.getD_eq_getElem?_getD, List.getElem?_set]
  by_cases h : k = j
  · subst h; simp [hk]
  · have h' : ¬ j = k := fun e => h e.symm
    simp [h, h']
theorem rep_get (c : UInt8) {i : Nat} (h : i < 256) : ((rep c).map u8V)[i]? = some (u8V c) := by
  rw [rep, List.map_replicate, List.getElem?_replicate, if_pos h]
theorem rep_mem {c x : UInt8} (h : x ∈ rep c) : x = c := (List.mem_replicate.1 h).2
/-- Each byte behind a fall is of what was kept, or of a write. -/
theorem fall_bytes {P : Nat → UInt8 → Prop} {kept : List Byt} {waits : List (Nat × Byt)} {ks : List Int} (hk : ∀ k, ∀ c ∈ kept.getD k [], P k c) (hw : ∀ w ∈ waits, w.1 < kept.length ∧ ∀ c ∈ w.2, P w.1 c) :
    ∀ i, i ≤ waits.length → ∀ k, ∀ c ∈ (fallN kept waits ks i).getD k [], P k c
  | 0, _, k, c, h => hk k c h
  | i + 1, hi, k, c, h => by
    have ih := fall_bytes (ks := ks) hk hw i (by omega)
    have hm := hw _ (getD_mem (l := waits) (i := i) (x := (0, [])) (by omega))
    rw [fallN, getD_setL (by rw [fallN_len]; exact hm.1)] at h
    by_cases e : k = (waits.getD i (0, [])).1
    · rw [if_pos e] at h
      rw [e]
      rcases List.mem_append.1 h with q | q
      · exact hm.2 c (List.mem_of_mem_take q)
      · exact ih _ c (List.mem_of_mem_drop q)
    · rw [if_neg e] at h; exact ih k c h

structure ActD where
  kind : Int
  n : Int
  c : UInt8
  ka : Option Addr
  ks : List Int
  kc : Nat
/-- What is known of a step that came in. -/
def ActD.Okk (L : List HP) (x : ActD) : Prop := (-9223372036854775808 ≤ x.kind ∧ x.kind ≤ 9223372036854775807) ∧ (-9223372036854775808 ≤ x.n ∧ x.n ≤ 9223372036854775807) ∧ x.ks.length ≤ 9223372036854775807 ∧ RdS 1 x.ka x.ks.length (x.ks.map (Value.int .i64)) L
def actD (x : ActD) : List Value := [.int .i64 x.kind, .int .i64 x.n, u8V x.c, .slice x.ka x.ks.length x.kc]

end Go.SL

/- Layer 9: the plain law of heads; the law's known head. -/
namespace Go.SL
open Go.Proofs
set_option linter.unusedVariables false
set_option linter.unusedSimpArgs false
set_option maxRecDepth 10000
set_option maxHeartbeats 4000000
attribute [local irreducible] W WO SV OW SW Tri Ent Tk Has Src SrcK DA DB RdS Own DevH

/-- A head's block is read as it was. -/
theorem hd_back {h : Hd} (fit : h.Fit) {b : Int} (r : HdR h (min b 4096)) : hdOk h.put b = true ∧ hdOf h.put b = h := by
  have hel := h.enc_len fit
  have r' := r
  unfold HdR at r'
  have hlen : h.put.length = 256 := sealB_len hel
  have hok : rOK h.put = true := rOK_iff.2 ⟨hlen, sealB_ok hel fit.g fit.g mkR9⟩
  obtain ⟨q1, q2, q3⟩ := mkB_read 9 h.gen h.gen ([0, UInt8.ofNat h.enc.length] ++ (h.enc ++ (List.replicate (220 - h.enc.length) 0 ++ mkB 9 h.gen h.gen))) fit.g fit.g
  have c1 : rK h.put = 9 := by unfold rK; rw [hok]; exact q1
  have c2 : rE h.put = h.gen := by unfold rE; rw [hok]; exact q2
  have c3 : rQ h.put = h.gen := by unfold rQ; rw [hok]; exact q3
  have c4 : rB h.put = h.enc := by unfold rB; rw [hok]; exact sealB_opB hel
  have hp : h.pos.toNat < 18446744073709551616 := by have := fit.p; omega
  have hl : h.log.toNat < 18446744073709551616 := by have := fit.l; omega
  have hR : hdRead h.put = (h, 0) := by
    unfold hdRead
    rw [c2, c4]
    unfold Hd.enc
    dsimp only
    rw [LI.num_enc fit.e]
    dsimp only
    rw [LI.small_enc hp (by omega)]
    dsimp only
    rw [LI.num_enc fit.s]
    dsimp only
    have e4 := LI.small_enc hl (show h.log.toNat ≤ 4096 by omega) []
    rw [List.append_nil] at e4
    rw [e4]
    dsimp only [LI.fin]
    rw [Int.toNat_of_nonneg (by omega), Int.toNat_of_nonneg (by omega)]
    rfl
  have hO : hdOk h.put b = true := by
    unfold hdOk
    rw [hR, hok, c1, c2, c3, decide_eq_true (show (9 : UInt8) = 9 ∧ h.gen = h.gen from ⟨rfl, rfl⟩), decide_eq_true r]
    rfl
  refine ⟨hO, ?_⟩
  unfold hdOf
  rw [hO, hR]
  rfl
/-- A block of bytes 0 is none. -/
theorem hd_zero (b : Int) : hdOk zero256 b = false := by
  have : rOK zero256 = false := by
    unfold rOK opOk
    have h0 : mkR (zero256.getD 0 0) = false := by
      unfold zero256
      rw [List.getD_eq_getElem?_getD, List.getElem?_replicate]
      rfl
    rw [h0]
    simp
  unfold hdOk
  rw [this]
  rfl
/-- The greatest head of the first blocks. -/
def wantN (xs : Nat → Byt) (len : Int) : Nat → Hd
  | 0 => Hd.zero
  | n + 1 => pickH (wantN xs len n) (xs n) n len
theorem wantN_ok (xs : Nat → Byt) (len : Int) : ∀ n, wantN xs len n = Hd.zero ∨ 1 ≤ (wantN xs len n).gen
  | 0 => .inl rfl
  | n + 1 => pickH_ok (wantN_ok xs len n)
theorem loadN_calm {d : Dv} (c : d.Calm) : ∀ n, n ≤ d.kept.length → (loadN d n).1.Calm ∧ (loadN d n).1.kept = d.kept ∧ (loadN d n).1.now = d.now ∧ (loadN d n).1.waits = d.waits ∧ (loadN d n).2.1 = wantN (fun k => d.now.getD k []) d.kept.length n ∧ (loadN d n).2.2 = 0
  | 0, _ => ⟨c, rfl, rfl, rfl, rfl, rfl⟩
  | n + 1, h => by
    obtain ⟨a, b, e, w, f, g⟩ := loadN_calm c n (by omega)
    have hr := Dv.read_calm a (n := n) (by rw [b]; omega)
    have hc := Dv.Calm.read a (n := n) (by rw [b]; omega)
    unfold loadN
    rw [if_neg (by rw [g]; simp), if_neg (by rw [hr]; simp)]
    refine ⟨hc, ?_, ?_, ?_, ?_, rfl⟩
    · rw [hr]; exact b
    · rw [hr]; exact e
    · rw [hr]; exact w
    · show pickH _ _ _ _ = pickH _ _ _ _
      rw [f, e]
theorem loadS_calm {d : Dv} (c : d.Calm) (h : 2 ≤ d.kept.length) : (loadS d).1.Calm ∧ (loadS d).1.kept = d.kept ∧ (loadS d).1.now = d.now ∧ (loadS d).1.waits = d.waits ∧ (loadS d).2.1 = wantN (fun k => d.now.getD k []) d.kept.length 2 ∧
    (loadS d).2.2 = if (wantN (fun k => d.now.getD k []) d.kept.length 2).gen = 0 then 13 else 0 := by
  obtain ⟨a, b, e, w, f, g⟩ := loadN_calm c 2 h
  have hm : min 2 d.kept.length = 2 := by omega
  unfold loadS
  rw [if_neg c.some, hm, if_neg (by rw [g]; simp), f]
  have hw := wantN_ok (fun k => d.now.getD k []) d.kept.length 2
  split
  · rename_i hz
    rcases hw with hw | hw
    · exact ⟨a, b, e, w, hw.symm, rfl⟩
    · omega
  · exact ⟨a, b, e, w, f, g⟩
theorem saveS_calm {d : Dv} (c : d.Calm) {h : Hd} (fit : h.Fit) (r : HdR h d.kept.length) :
    (saveS d h).2 = 0 ∧ (saveS d h).1.Calm ∧ (saveS d h).1.kept = d.now.set (h.gen % 2) h.put ∧ (saveS d h).1.now = d.now.set (h.gen % 2) h.put ∧ (saveS d h).1.waits = [] := by
  have r' := r
  unfold HdR at r'
  have hpl : h.put.length = 256 := sealB_len (h.enc_len fit)
  have hin : (0 : Int) ≤ ((h.gen % 2 : Nat) : Int) ∧ ((h.gen % 2 : Nat) : Int) < d.kept.length := by omega
  have hp := Dv.put_calm c hin hpl
  have hc := Dv.Calm.put c hin hpl
  unfold saveS
  rw [if_neg c.some, if_pos r, if_pos (by rw [hp])]
  refine ⟨by rw [Dv.flush_calm hc], Dv.Calm.flush hc, ?_, ?_, ?_⟩
  · rw [Dv.flush_calm hc, hp]; simp only [Int.toNat_natCast]
  · rw [Dv.flush_calm hc, hp]; simp only [Int.toNat_natCast]
  · rw [Dv.flush_calm hc]
theorem saveS_not {d : Dv} (c : d.Calm) {h : Hd} (r : ¬HdR h d.kept.length) : saveS d h = (d, 2) := by
  unfold saveS
  rw [if_neg c.some, if_neg r]
def Hd.one : Hd := ⟨1, 1, 0, 1, 5⟩
end Go.SL

/- Layer 10 (journal): what a log does, in plain words. -/
namespace Go.SL
open Go.Proofs
set_option linter.unusedVariables false
set_option linter.unusedSimpArgs false
set_option linter.unusedSectionVars false
set_option maxRecDepth 10000
set_option maxHeartbeats 4000000
/-- A log: its head, where the next transaction is laid, its number, how many places are in use, what is not laid at its place, whether its device fell. -/
structure Lg where
  hd : Hd
  cur : Nat
  seq : Nat
  used : Nat
  wet : List (Int × Byt)
  down : Bool
def Lg.log (g : Lg) : Nat := g.hd.log.toNat
def Lg.place (g : Lg) (k : Nat) : Nat := 2 + (g.cur + k) % g.log
def Lg.home (g : Lg) (n : Nat) : Nat := 2 + g.log + n
structure LgOk (d : Dv) (g : Lg) : Prop where
  hd : HdR g.hd d.kept.length
  cur : g.cur < g.log
  seq : g.seq < 9223372036854775808
  used : g.used ≤ g.log
theorem LgOk.log {d : Dv} {g : Lg} (x : LgOk d g) : (g.log : Int) = g.hd.log ∧ 3 ≤ g.log ∧ g.log + 3 ≤ d.kept.length := by
  have := x.hd
  unfold HdR at this
  unfold Lg.log
  omega
theorem LgOk.place {d : Dv} {g : Lg} (x : LgOk d g) (k : Nat) : g.place k < d.kept.length := by
  have := x.log
  have := Nat.mod_lt (g.cur + k) (show 0 < g.log by omega)
  unfold Lg.place; omega
/-- How many blocks there are for use. -/
def homeN (d : Dv) (g : Lg) : Nat := d.kept.length - 2 - g.log
/-- A sealed block is laid at a place. -/
def sealP (d : Dv) (g : Lg) (k : Nat) (kind : UInt8) (b : Byt) : Dv × Int := d.put (g.place k : Nat) (sealB kind g.hd.epoch g.seq b)
/-- What stands in a sealed block at a place. -/
def openedP (d : Dv) (g : Lg) (k : Nat) (kind : UInt8) : Dv × Byt × Bool × Int :=
  if (d.read (g.place k : Nat)).2 ≠ 0 then ((d.read (g.place k : Nat)).1, [], false, (d.read (g.place k : Nat)).2)
  else ((d.read (g.place k : Nat)).1, rB (d.now.getD (g.place k) []), decide (rZ (d.now.getD (g.place k) []) = 0 ∧ rK (d.now.getD (g.place k) []) = kind ∧ rE (d.now.getD (g.place k) []) = g.hd.epoch ∧ rQ (d.now.getD (g.place k) []) = g.seq), 0)
abbrev Chs := List (Int × Byt)
/-- Whether changes may be done. -/
def nowBad (home : Nat) (c : Chs) (i : Nat) : Bool :=
  decide ((c.getD i (0, [])).1 < 0) || decide ((home : Int) ≤ (c.getD i (0, [])).1) || decide ((c.getD i (0, [])).1 ∈ (c.take i).map (·.1)) || decide ((c.getD i (0, [])).2.length ≠ 256)
def goodN (home : Nat) (c : Chs) : Nat → Bool
  | 0 => true
  | i + 1 => goodN home c i && !nowBad home c i
theorem goodN_false {home : Nat} {c : Chs} {i : Nat} (h : goodN home c i = false) : ∀ n, i ≤ n → goodN home c n = false := by
  intro n hn
  induction n with
  | zero => obtain rfl : i = 0 := by omega
            exact h
  | succ n ih =>
    by_cases e : i = n + 1
    · subst e; exact h
    · unfold goodN; rw [ih (by omega)]; rfl
def chsR (home : Nat) (c : Chs) : Bool := goodN home c c.length && (decide (1 ≤ c.length) && decide (c.length ≤ 70))
/-- The bytes that name a transaction's blocks. -/
def chB (x : Int × Byt) : Byt := [UInt8.ofNat (x.1.toNat / 256), UInt8.ofNat x.1.toNat, x.2.getD 0 0]
/-- Covered blocks are laid. -/
def layC (g : Lg) : Dv → Chs → Nat → Dv × Int
  | d, [], _ => (d, 0)
  | d, x :: c, i => if (d.put (g.place (1 + i) : Nat) (x.2.set 0 3)).2 ≠ 0 then d.put (g.place (1 + i) : Nat) (x.2.set 0 3) else layC g (d.put (g.place (1 + i) : Nat) (x.2.set 0 3)).1 c (i + 1)
/-- One after the other, as long as none fails. -/
def andD (r : Dv × Int) (k : Dv → Dv × Int) : Dv × Int := if r.2 ≠ 0 then r else k r.1
def layF (d : Dv) (g : Lg) (c : Chs) : Dv × Int :=
  andD (sealP d g 0 1 (c.flatMap chB)) fun d => andD (layC g d c 0) fun d => andD d.flush fun d => andD (sealP d g (1 + c.length) 2 []) fun d => d.flush
/-- The head of where the log is now is saved. -/
def Lg.next (g : Lg) (epoch : Nat) : Hd := ⟨g.hd.gen + 1, epoch, g.cur, g.seq, g.hd.log⟩
def saveP (d : Dv) (g : Lg) (epoch : Nat) : Dv × Lg × Int :=
  if (saveS d (g.next epoch)).2 = 0 then ((saveS d (g.next epoch)).1, { g with hd := g.next epoch }, 0) else ((saveS d (g.next epoch)).1, g, (saveS d (g.next epoch)).2)
/-- The blocks of a transaction, bare. -/
def barL (g : Lg) (b : Byt) : Dv → Nat → Nat → Chs → Dv × Option Chs × Int
  | d, 0, _, acc => (d, some acc, 0)
  | d, f + 1, i, acc =>
    if (d.read (g.place (1 + i) : Nat)).2 ≠ 0 then ((d.read (g.place (1 + i) : Nat)).1, none, (d.read (g.place (1 + i) : Nat)).2)
    else if (d.now.getD (g.place (1 + i)) []).getD 0 0 ≠ 3 then ((d.read (g.place (1 + i) : Nat)).1, none, 0)
    else barL g b (d.read (g.place (1 + i) : Nat)).1 f (i + 1) (acc ++ [((((b.getD (3 * i) 0).toNat * 256 + (b.getD (3 * i + 1) 0).toNat : Nat) : Int), (d.now.getD (g.place (1 + i)) []).set 0 (b.getD (3 * i + 2) 0))])
def oneP (d : Dv) (g : Lg) (places : Nat) : Dv × Option Chs × Int :=
  if (openedP d g 0 1).2.2.2 ≠ 0 ∨ (openedP d g 0 1).2.2.1 = false ∨ (openedP d g 0 1).2.1.length = 0 ∨ (openedP d g 0 1).2.1.length % 3 ≠ 0 ∨ places < (openedP d g 0 1).2.1.length / 3 + 2 then ((openedP d g 0 1).1, none, (openedP d g 0 1).2.2.2)
  else match barL g (openedP d g 0 1).2.1 (openedP d g 0 1).1 ((openedP d g 0 1).2.1.length / 3) 0 [] with
    | (d, none, e) => (d, none, e)
    | (d, some c, _) => if (openedP d g (1 + c.length) 2).2.2.2 ≠ 0 ∨ (openedP d g (1 + c.length) 2).2.2.1 = false ∨ (openedP d g (1 + c.length) 2).2.1.length ≠ 0 ∨ chsR (homeN d g) c = false then ((openedP d g (1 + c.length) 2).1, none, (openedP d g (1 + c.length) 2).2.2.2)
      else ((openedP d g (1 + c.length) 2).1, some c, 0)
/-- All transactions that are whole: so many more. -/
def readP : Nat → Dv → Lg → Nat → Chs → Dv × Lg × Option Chs × Int
  | 0, d, g, _, all => (d, g, some all, 0)
  | f + 1, d, g, p, all =>
    match oneP d g (g.log - p) with
    | (d, none, e) => if e ≠ 0 then (d, g, none, e) else (d, g, some all, 0)
    | (d, some c, _) => readP f d { g with cur := (g.cur + c.length + 2) % g.log, seq := g.seq + 1 } (p + c.length + 2) (all ++ c)
def redoC (g : Lg) : Dv → Chs → Dv × Int
  | d, [] => (d, 0)
  | d, x :: c => andD (d.put (g.home x.1.toNat : Nat) x.2) fun d => redoC g d c
def redoP (d : Dv) (g : Lg) (all : Chs) : Dv × Int := andD (redoC g d all) fun d => if all.length = 0 then (d, 0) else d.flush
def openLg (h : Hd) : Lg := ⟨h, h.pos.toNat, h.seq, 0, [], false⟩
/-- A log is opened. -/
def openP (d : Dv) : Dv × Option Lg × Int :=
  if (loadS d).2.2 ≠ 0 then ((loadS d).1, none, (loadS d).2.2)
  else match readP ((loadS d).2.1.log.toNat + 1) (loadS d).1 (openLg (loadS d).2.1) 0 [] with
    | (d, g, none, e) => (d, none, e)
    | (d, g, some all, _) => if (redoP d g all).2 ≠ 0 then ((redoP d g all).1, none, (redoP d g all).2)
      else if (saveP (redoP d g all).1 g (g.hd.epoch + 1)).2.2 ≠ 0 then ((saveP (redoP d g all).1 g (g.hd.epoch + 1)).1, none, (saveP (redoP d g all).1 g (g.hd.epoch + 1)).2.2)
      else ((saveP (redoP d g all).1 g (g.hd.epoch + 1)).1, some (saveP (redoP d g all).1 g (g.hd.epoch + 1)).2.1, 0)
end Go.SL

/- Layer 10 (journal): the log's small functions, walked. -/
namespace Go.SL
open Go.Proofs
set_option linter.unusedVariables false
set_option linter.unusedSimpArgs false
set_option linter.unusedSectionVars false
set_option maxRecDepth 10000
set_option maxHeartbeats 4000000
abbrev lgL (db : Nat) (g : Lg) (mb : Nat) : List Value := [.pointer (some ⟨db, 0, none⟩), .int .u64 g.hd.gen, .int .u64 g.hd.epoch, .int .i64 g.hd.pos, .int .u64 g.hd.seq, .int .i64 g.hd.log, .int .i64 g.cur, .int .u64 g.seq, .int .i64 g.used, .map (some mb), .bool g.down]
abbrev LgP (lb db : Nat) (g : Lg) (mb : Nat) : HP := pts lb (.cells (lgL db g mb).toArray 147)
/-- A log that was not made. -/
abbrev lg0 : List Value := [.pointer none, .int .u64 0, .int .u64 0, .int .i64 0, .int .u64 0, .int .i64 0, .int .i64 0, .int .u64 0, .int .i64 0, .map none, .bool false]
attribute [local irreducible] W WO SV OW SW Tri Ent Tk Has Src SrcK DA DB RdS Own
theorem jr_none (lb db mb : Nat) (g : Lg) (L : List HP) [r : Rd L lb (.cells (lgL db g mb).toArray 147 (0, 0))] :
    TriE Tryz.prog 108 #[.pointer (some ⟨lb, 0, none⟩)] (fun v M => v = .bool false ∧ M = L) L := by
  refine Tri.of (N := 12) (args := [.pointer (some ⟨lb, 0, none⟩)]) Tryz.func108 rfl rfl rfl ?_
  refine go ?_
  exact ⟨rfl, [_], ⟨Res.tmp rfl, trivial⟩, L, ent, rfl, rfl⟩
theorem jr_noneU (lb : Nat) (L : List HP) [r : Rd L lb (.cells lg0.toArray 147 (0, 0))] :
    TriE Tryz.prog 108 #[.pointer (some ⟨lb, 0, none⟩)] (fun v M => v = .bool true ∧ M = L) L := by
  refine Tri.of (N := 12) (args := [.pointer (some ⟨lb, 0, none⟩)]) Tryz.func108 rfl rfl rfl ?_
  refine go ?_
  exact ⟨rfl, [_], ⟨Res.tmp rfl, trivial⟩, L, ent, rfl, rfl⟩
theorem jr_noneN (L : List HP) :
    TriE Tryz.prog 108 #[.pointer none] (fun v M => v = .bool true ∧ M = L) L := by
  refine Tri.of (N := 12) (args := [.pointer none]) Tryz.func108 rfl rfl rfl ?_
  refine go ?_
  exact ⟨rfl, [_], ⟨Res.tmp rfl, trivial⟩, L, ent, rfl, rfl⟩
/-- A pointer to a log that was not made, or to none. -/
def Unm (x : Value) (L : List HP) : Prop := TriE Tryz.prog 108 #[x] (fun v M => v = .bool true ∧ M = L) L
theorem jr_check (lb db mb : Nat) (g : Lg) (L : List HP) [r : Rd L lb (.cells (lgL db g mb).toArray 147 (0, 0))] :
    TriE Tryz.prog 79 #[.pointer (some ⟨lb, 0, none⟩)] (fun v M => v = .int .i64 (if g.down then 17 else 0) ∧ M = L) L := by
  refine Tri.of (N := 11) (args := [.pointer (some ⟨lb, 0, none⟩)]) Tryz.func79 rfl rfl rfl ?_
  refine go ?_
  refine WO.callE (vs := [.pointer (some ⟨lb, 0, none⟩)]) Tryz.func108 rfl rfl rfl rfl (jr_none lb db mb g L) ?_
  rintro v M ⟨rfl, rfl⟩
  refine go ?_
  generalize g.down = dn at *
  cases dn with
  | true =>
    refine go ?_
    exact ⟨rfl, [_], ⟨Res.tmp rfl, trivial⟩, _, ent, rfl, rfl⟩
  | false =>
    refine go ?_
    exact ⟨rfl, [_], ⟨Res.tmp rfl, trivial⟩, _, ent, rfl, rfl⟩
theorem jr_checkU (x : Value) (L : List HP) (u : Unm x L) :
    TriE Tryz.prog 79 #[x] (fun v M => v = .int .i64 1 ∧ M = L) L := by
  refine Tri.of (N := 11) (args := [x]) Tryz.func79 rfl rfl rfl ?_
  refine go ?_
  refine WO.callE (vs := [x]) Tryz.func108 rfl rfl rfl rfl u ?_
  rintro v M ⟨rfl, rfl⟩
  refine go ?_
  exact ⟨rfl, [_], ⟨Res.tmp rfl, trivial⟩, _, ent, rfl, rfl⟩
theorem jr_HomeU (x : Value) (L : List HP) (u : Unm x L) :
    TriE Tryz.prog 65 #[x] (fun v M => v = .int .i64 0 ∧ M = L) L := by
  refine Tri.of (N := 17) (args := [x]) Tryz.func65 rfl rfl rfl ?_
  refine go ?_
  refine WO.callE (vs := [x]) Tryz.func108 rfl rfl rfl rfl u ?_
  rintro v M ⟨rfl, rfl⟩
  refine go ?_
  exact ⟨rfl, [_], ⟨Res.tmp rfl, trivial⟩, _, ent, rfl, rfl⟩
theorem jr_DownU (x : Value) (L : List HP) (u : Unm x L) :
    TriE Tryz.prog 57 #[x] (fun v M => v = .bool false ∧ M = L) L := by
  refine Tri.of (N := 12) (args := [x]) Tryz.func57 rfl rfl rfl ?_
  refine go ?_
  refine WO.callE (vs := [x]) Tryz.func108 rfl rfl rfl rfl u ?_
  rintro v M ⟨rfl, rfl⟩
  refine go ?_
  exact ⟨rfl, [_], ⟨Res.tmp rfl, trivial⟩, _, ent, rfl, rfl⟩
theorem jr_Down (lb db mb : Nat) (g : Lg) (L : List HP) [r : Rd L lb (.cells (lgL db g mb).toArray 147 (0, 0))] :
    TriE Tryz.prog 57 #[.pointer (some ⟨lb, 0, none⟩)] (fun v M => v = .bool g.down ∧ M = L) L := by
  refine Tri.of (N := 12) (args := [.pointer (some ⟨lb, 0, none⟩)]) Tryz.func57 rfl rfl rfl ?_
  refine go ?_
  refine WO.callE (vs := [.pointer (some ⟨lb, 0, none⟩)]) Tryz.func108 rfl rfl rfl rfl (jr_none lb db mb g L) ?_
  rintro v M ⟨rfl, rfl⟩
  refine go ?_
  exact ⟨rfl, [_], ⟨Res.tmp rfl, trivial⟩, _, ent, rfl, rfl⟩
end Go.SL

/- Layer 10 (journal): places, homes, sealed and opened blocks, the head saved; walked. -/
namespace Go.SL
open Go.Proofs
set_option linter.unusedVariables false
set_option linter.unusedSimpArgs false
set_option linter.unusedSectionVars false
set_option maxRecDepth 10000
set_option maxHeartbeats 4000000
attribute [local irreducible] W WO SV OW SW Tri Ent Tk Has Src SrcK DA DB RdS Own
theorem jr_Home (lb db mb : Nat) (g : Lg) (d : Dv) (R : List HP) (hk : d.kept.length ≤ 4096) (hg : 0 ≤ g.hd.log ∧ g.hd.log ≤ 4096) :
    TriE Tryz.prog 65 #[.pointer (some ⟨lb, 0, none⟩)] (fun v M => v = .int .i64 ((d.kept.length : Int) - 2 - g.hd.log) ∧ M = LgP lb db g mb :: DevH db d :: R) (LgP lb db g mb :: DevH db d :: R) := by
  refine Tri.of (N := 17) (args := [.pointer (some ⟨lb, 0, none⟩)]) Tryz.func65 rfl rfl rfl ?_
  refine go ?_
  refine WO.callE (vs := [.pointer (some ⟨lb, 0, none⟩)]) Tryz.func108 rfl rfl rfl rfl (jr_none lb db mb g _) ?_
  rintro v M ⟨rfl, rfl⟩
  refine go ?_
  refine W.drawB #[0, 1, 3, 7, 15, 31, 0, 64, 192, 448, 960, 2047, 4095] [LgP lb db g mb] (DevH db d :: R) rfl (by kernel_rfl) (by kernel_rfl) (by kernel_rfl) ent ?_
  refine go ?_
  refine DB.callE (vs := [.pointer (some ⟨db, 0, none⟩)]) Tryz.func72 rfl rfl rfl rfl hl hl (TriE.ent ent (dv_LenH db d (LgP lb db g mb :: R))) ?_
  rintro v M ⟨rfl, rfl⟩
  refine ⟨[], DevH db d :: R, ent, ?_⟩
  refine go ?_
  refine ⟨LgP lb db g mb :: DevH db d :: R, ent, ?_⟩
  refine go ?_
  exact ⟨rfl, [_], ⟨Res.tmp rfl, trivial⟩, _, ent, rfl, rfl⟩
theorem jr_place (lb db mb k : Nat) (g : Lg) (L : List HP) (h3 : 3 ≤ g.log) (h4 : g.log ≤ 4096) (hgl : (g.log : Int) = g.hd.log) (hc : g.cur < g.log) (hk : k ≤ 100000) [r : Rd L lb (.cells (lgL db g mb).toArray 147 (0, 0))] :
    TriE Tryz.prog 154 #[.pointer (some ⟨lb, 0, none⟩), .int .i64 k] (fun v M => v = .int .i64 (g.place k : Nat) ∧ M = L) L := by
  refine Tri.of (N := 18) (args := [.pointer (some ⟨lb, 0, none⟩), .int .i64 k]) Tryz.func154 rfl rfl rfl ?_
  refine go ?_
  have hpl : g.place k = 2 + (g.cur + k) % g.log := rfl
  refine W.drawA rfl (by kernel_rfl) (by kernel_rfl) ?_
  refine go ?_
  refine ⟨rfl, [_], ⟨Res.tmp rfl, trivial⟩, L, ent, ?_, rfl⟩
  show Value.int _ (IntKind.wrap .i64 (2 + ((g.cur : Int) + (k : Int)) % g.hd.log)) = _
  have hm := Nat.mod_lt (g.cur + k) (show 0 < g.log by omega)
  have e : ((g.cur : Int) + (k : Int)) % g.hd.log = (((g.cur + k) % g.log : Nat) : Int) := by rw [← hgl]; exact_mod_cast rfl
  rw [e, hpl]
  generalize (g.cur + k) % g.log = m at *
  congr 1
  rw [show (2 : Int) + (m : Int) = ((2 + m : Nat) : Int) by omega]
  exact wI
theorem jr_home (lb db mb n : Nat) (g : Lg) (L : List HP) (h4 : g.log ≤ 4096) (hgl : (g.log : Int) = g.hd.log) (hn : n ≤ 100000) [r : Rd L lb (.cells (lgL db g mb).toArray 147 (0, 0))] :
    TriE Tryz.prog 82 #[.pointer (some ⟨lb, 0, none⟩), .int .i64 n] (fun v M => v = .int .i64 (g.home n : Nat) ∧ M = L) L := by
  refine Tri.of (N := 13) (args := [.pointer (some ⟨lb, 0, none⟩), .int .i64 n]) Tryz.func82 rfl rfl rfl ?_
  refine go ?_
  refine ⟨rfl, [_], ⟨Res.tmp rfl, trivial⟩, L, ent, ?_, rfl⟩
  show Value.int _ _ = _
  congr 1
  unfold Lg.home
  omega
theorem jr_fell (lb db mb : Nat) (g : Lg) (e : Int) (R : List HP) :
    TriE Tryz.prog 83 #[.pointer (some ⟨lb, 0, none⟩), .int .i64 e] (fun v M => v = .int .i64 e ∧ M = LgP lb db { g with down := g.down || decide (e ≠ 0) } mb :: R) (LgP lb db g mb :: R) := by
  refine Tri.of (N := 17) (args := [.pointer (some ⟨lb, 0, none⟩), .int .i64 e]) Tryz.func83 rfl rfl rfl ?_
  obtain ⟨hd, cur, seq, used, wet, down⟩ := g
  cases down with
  | true =>
    refine go ?_
    exact ⟨rfl, [_], ⟨Res.tmp rfl, trivial⟩, _, ent, rfl, rfl⟩
  | false =>
    by_cases he : e = 0
    · subst he
      refine go ?_
      exact ⟨rfl, [_], ⟨Res.tmp rfl, trivial⟩, _, ent, rfl, rfl⟩
    · rw [show (false || decide (e ≠ 0)) = true by simp [he]]
      refine go ?_
      exact ⟨rfl, [_], ⟨Res.tmp rfl, trivial⟩, _, ent, rfl, rfl⟩
theorem jr_first (n : Int) (L : List HP) : TriE Tryz.prog 117 #[.int .i64 n] (fun v M => v = .agg (Hd.L ⟨1, 1, 0, 1, n⟩).toArray ∧ M = L) L := by
  refine Tri.of (N := 5) (args := [.int .i64 n]) Tryz.func117 rfl rfl rfl ?_
  refine go ?_
  intro b
  refine go ?_
  exact ⟨rfl, [_], ⟨Res.cell rfl le0 nl, trivial⟩, L, ent, rfl, rfl⟩
end Go.SL

/- Layer 10 (journal): sealed and opened blocks, the head saved; walked. -/
namespace Go.SL
open Go.Proofs
set_option linter.unusedVariables false
set_option linter.unusedSimpArgs false
set_option linter.unusedSectionVars false
set_option maxRecDepth 10000
set_option maxHeartbeats 4000000
/-- What is asked of a log to be walked. -/
structure LgW (g : Lg) : Prop where
  l3 : 3 ≤ g.log
  l4 : g.log ≤ 4096
  eq : (g.log : Int) = g.hd.log
  cur : g.cur < g.log
  ep : g.hd.epoch < 18446744073709551616
  sq : g.seq < 18446744073709551616
attribute [local irreducible] W WO SV OW SW Tri Ent Tk Has Src SrcK DA DB RdS Own
theorem jr_sealed (lb db mb k : Nat) (g : Lg) (d : Dv) (kind : UInt8) (a : Option Addr) (c : Nat) (b : Byt) (R : List HP) (w : LgW g) (hk : k ≤ 100000) (hkd : mkR kind = true) (hb : b.length ≤ 220) (ok : d.Ok) (hwt : d.waits.length ≤ 1000000) (r : RdS 1 a b.length (b.map u8V) R) :
    TriE Tryz.prog 152 #[.pointer (some ⟨lb, 0, none⟩), .int .i64 k, u8V kind, .slice a b.length c] (fun v M => v = .int .i64 (sealP d g k kind b).2 ∧ M = LgP lb db g mb :: DevH db (sealP d g k kind b).1 :: R) (LgP lb db g mb :: DevH db d :: R) := by
  refine Tri.of (N := 39) (args := [.pointer (some ⟨lb, 0, none⟩), .int .i64 k, u8V kind, .slice a b.length c]) Tryz.func152 rfl rfl rfl ?_
  refine go ?_
  refine W.drawB #[0, 0, 2, 6, 14, 30, 0, 64, 192, 448, 1023, 0, 4095, 8191, 16383, 16383, 32767, 131071] [LgP lb db g mb] (DevH db d :: R) rfl (by kernel_rfl) (by kernel_rfl) (by kernel_rfl) ent ?_
  refine go ?_
  refine DB.callE (vs := [.agg (mkL kind g.hd.epoch g.seq).toArray, .slice a b.length c]) Tryz.func182 rfl rfl rfl rfl hl hl (mk_Seal kind g.hd.epoch g.seq a c b _ w.ep w.sq (by omega) r.cons.cons) ?_
  rintro v M (⟨h, _⟩ | ⟨_, h, _⟩ | ⟨_, _, a2, c2, rfl, ha2, hc2, rfl⟩)
  · rw [hkd] at h; cases h
  · omega
  have hsl : (sealB kind g.hd.epoch g.seq b).length = 256 := sealB_len hb
  have hsp : sealP d g k kind b = d.put (g.place k : Nat) (sealB kind g.hd.epoch g.seq b) := rfl
  rw [hsp]
  clear hsp
  generalize sealB kind g.hd.epoch g.seq b = s at *
  refine ⟨[], DevH db d :: OS a2 c2 s :: R, ent, ?_⟩
  refine go ?_
  refine ⟨LgP lb db g mb :: DevH db d :: OS a2 c2 s :: R, ent, ?_⟩
  refine go ?_
  refine W.drawB #[0, 1, 3, 7, 0, 0, 48, 0, 255, 511] [LgP lb db g mb] (DevH db d :: OS a2 c2 s :: R) rfl (by kernel_rfl) (by kernel_rfl) (by kernel_rfl) ent ?_
  refine go ?_
  refine DB.callE (vs := [.pointer (some ⟨lb, 0, none⟩), .int .i64 k]) Tryz.func154 rfl rfl rfl rfl hl hl (jr_place lb db mb k g _ w.l3 w.l4 w.eq w.cur hk) ?_
  rintro v M ⟨rfl, rfl⟩
  refine ⟨[], DevH db d :: OS a2 c2 s :: R, ent, ?_⟩
  refine go ?_
  refine DB.callE (vs := [.pointer (some ⟨db, 0, none⟩), .int .i64 (g.place k : Nat), .slice a2 s.length c2]) Tryz.func103 rfl rfl rfl rfl hl hl (TriE.ent (A := DevH db d :: LgP lb db g mb :: OS a2 c2 s :: R) ent (dv_Write db d (g.place k : Nat) a2 c2 s _ ok (by omega) hwt (OS.rd (Tk.there Tk.here) ha2))) ?_
  rintro v M ⟨rfl, rfl⟩
  refine ⟨[], DevH db (d.put (g.place k : Nat) s).1 :: R, ent, ?_⟩
  refine go ?_
  refine ⟨LgP lb db g mb :: DevH db (d.put (g.place k : Nat) s).1 :: R, ent, ?_⟩
  refine go ?_
  exact ⟨rfl, [_], ⟨Res.tmp rfl, trivial⟩, _, ent, rfl, rfl⟩
end Go.SL

/- Layer 10 (journal): what stands in a sealed block at a place, walked. -/
namespace Go.SL
open Go.Proofs
set_option linter.unusedVariables false
set_option linter.unusedSimpArgs false
set_option linter.unusedSectionVars false
set_option maxRecDepth 10000
set_option maxHeartbeats 4000000
theorem now256 {d : Dv} (ok : d.Ok) {n : Nat} (h : n < d.kept.length) : (d.now.getD n []).length = 256 := by
  have hl := ok.now
  rw [List.getD_eq_getElem?_getD, List.getElem?_eq_getElem (by omega)]
  exact ok.n256 _ (List.getElem_mem _)
attribute [local irreducible] W WO SV OW SW Tri Ent Tk Has Src SrcK DA DB RdS Own
theorem jr_opened (lb db mb k : Nat) (g : Lg) (d : Dv) (kind : UInt8) (R : List HP) (w : LgW g) (hk : k ≤ 100000) (hp : g.place k < d.kept.length) (ok : d.Ok) :
    TriE Tryz.prog 183 #[.pointer (some ⟨lb, 0, none⟩), .int .i64 k, u8V kind] (fun v M => ∃ a c, v = .tuple [.slice a (openedP d g k kind).2.1.length c, .bool (openedP d g k kind).2.2.1, .int .i64 (openedP d g k kind).2.2.2].toArray ∧ SomeA a (openedP d g k kind).2.1.length ∧ M = OS a c (openedP d g k kind).2.1 :: LgP lb db g mb :: DevH db (openedP d g k kind).1 :: R) (LgP lb db g mb :: DevH db d :: R) := by
  have hn := now256 ok hp
  refine Tri.of (N := 52) (args := [.pointer (some ⟨lb, 0, none⟩), .int .i64 k, u8V kind]) Tryz.func183 rfl rfl rfl ?_
  refine go ?_
  refine W.drawB #[0, 1, 3, 7, 0, 0, 48, 127, 255, 511, 511, 1023, 4095] [LgP lb db g mb] (DevH db d :: R) rfl (by kernel_rfl) (by kernel_rfl) (by kernel_rfl) ent ?_
  refine go ?_
  refine DB.callE (vs := [.pointer (some ⟨lb, 0, none⟩), .int .i64 k]) Tryz.func154 rfl rfl rfl rfl hl hl (jr_place lb db mb k g _ w.l3 w.l4 w.eq w.cur hk) ?_
  rintro v M ⟨rfl, rfl⟩
  refine ⟨[], DevH db d :: R, ent, ?_⟩
  have hP : openedP d g k kind = if (d.read (g.place k : Nat)).2 ≠ 0 then ((d.read (g.place k : Nat)).1, [], false, (d.read (g.place k : Nat)).2)
    else ((d.read (g.place k : Nat)).1, rB (d.now.getD (g.place k) []), decide (rZ (d.now.getD (g.place k) []) = 0 ∧ rK (d.now.getD (g.place k) []) = kind ∧ rE (d.now.getD (g.place k) []) = g.hd.epoch ∧ rQ (d.now.getD (g.place k) []) = g.seq), 0) := rfl
  generalize openedP d g k kind = P at *
  have hT : ((g.place k : Nat) : Int).toNat = g.place k := rfl
  refine go ?_
  refine DB.callE (vs := [.pointer (some ⟨db, 0, none⟩), .int .i64 (g.place k : Nat)]) Tryz.func81 rfl rfl rfl rfl hl hl (TriE.ent (A := DevH db d :: LgP lb db g mb :: R) ent (dv_Read db d (g.place k : Nat) _ ok)) ?_
  rintro v M (⟨he, rfl, rfl⟩ | ⟨he, a, c, rfl, ha, rfl⟩)
  · rw [if_pos he] at hP
    subst hP
    generalize d.read (g.place k : Nat) = q at *
    refine ⟨[], DevH db q.1 :: R, ent, ?_⟩
    refine go ?_
    refine ⟨LgP lb db g mb :: DevH db q.1 :: R, ent, ?_⟩
    refine go ?_
    refine ⟨rfl, [_, _, _], ⟨Res.tmp rfl, Res.tmp rfl, Res.tmp rfl, trivial⟩, OS none 0 [] :: LgP lb db g mb :: DevH db q.1 :: R, ?_, none, 0, rfl, fun z => absurd rfl z, rfl⟩
    unfold OS; exact Ent.ownNil ent
  · rw [if_neg (by simpa using he)] at hP
    rw [hT] at *
    generalize d.now.getD (g.place k) [] = s at *
    generalize (d.read (g.place k : Nat)) = q at *
    subst hP
    obtain ⟨q1, q2⟩ := q
    obtain rfl : q2 = 0 := he
    refine ⟨[], DevH db q1 :: OS a c s :: R, ent, ?_⟩
    refine go ?_
    refine ⟨OS a c s :: LgP lb db g mb :: DevH db q1 :: R, ent, ?_⟩
    refine go ?_
    refine WO.ownCap (E := 5) (sz := 1) (n := s.length) (xs := s.map u8V) (show Tk _ (OS a c s) _ from tk) fun hcap => ?_
    refine WO.callE (vs := [.slice a s.length c]) Tryz.func163 rfl rfl (by rw [hn]; rfl) rfl (mk_OpenU (OS a c s) a c s _ (by omega) hcap (OS.rd Tk.here (by rw [hn]; exact ha))) ?_
    rintro v M ⟨a2, c2, rfl, ha2, e2⟩
    refine WO.ent (M := OS a2 c2 (rB s) :: LgP lb db g mb :: DevH db q1 :: R) (e2.trans ent) ?_
    generalize rB s = b2 at *
    generalize rK s = k2 at *
    generalize rE s = ee at *
    generalize rQ s = qq at *
    generalize rZ s = z2 at *
    refine go ?_
    intro b5
    refine go ?_
    by_cases hz : z2 = 0
    · subst hz
      refine W.drawB #[0, 0, 2, 6, 14, 14, 14, 78, 206, 462, 974, 14, 2062, 6158, 14350, 32750, 65534, 131070, 15, 524287, 1048575] [pts b5 (.cells (mkL k2 ee qq).toArray 223), LgP lb db g mb] (OS a2 c2 b2 :: DevH db q1 :: R) rfl (by kernel_rfl) (by kernel_rfl) (by kernel_rfl) ent ?_
      refine go ?_
      refine DB.q (v := .bool (decide (k2 = kind ∧ ee = g.hd.epoch ∧ qq = g.seq))) rfl rfl hl (SV.eqlMk rfl rfl eqq) ?_
      refine go ?_
      refine ⟨OS a2 c2 b2 :: LgP lb db g mb :: DevH db q1 :: R, ent, ?_⟩
      refine go ?_
      refine ⟨rfl, [_, _, _], ⟨Res.tmp rfl, Res.tmp rfl, Res.tmp rfl, trivial⟩, _, ent, a2, c2, ?_, ha2, rfl⟩
      simp only [true_and]
      rfl
    · refine W.drawB #[0, 0, 2, 6, 14, 14, 14, 78, 206, 462, 974, 14, 2062, 6158, 14350, 32750, 65534, 131070, 15, 524287, 1048575] [] (pts b5 (.cells (mkL k2 ee qq).toArray 223) :: LgP lb db g mb :: OS a2 c2 b2 :: DevH db q1 :: R) rfl (by kernel_rfl) (by kernel_rfl) (by kernel_rfl) ent ?_
      refine go ?_
      refine ⟨OS a2 c2 b2 :: LgP lb db g mb :: DevH db q1 :: R, ent, ?_⟩
      refine go ?_
      refine ⟨rfl, [_, _, _], ⟨Res.tmp rfl, Res.tmp rfl, Res.tmp rfl, trivial⟩, _, ent, a2, c2, ?_, ha2, rfl⟩
      rw [decide_eq_false (fun q => hz q.1)]
      rfl
end Go.SL

/- Layer 10 (journal): a head is saved, walked. -/
namespace Go.SL
open Go.Proofs
set_option linter.unusedVariables false
set_option linter.unusedSimpArgs false
set_option linter.unusedSectionVars false
set_option maxRecDepth 10000
set_option maxHeartbeats 4000000
theorem sub_fullH {l : List Value} {n : Nat} (h : l.length = n) : NL (lsub l 0 n) l := by
  rw [lsub_eq, List.drop_zero, List.take_of_length_le (by omega)]; rfl
attribute [local irreducible] W WO SV OW SW Tri Ent Tk Has Src SrcK DA DB RdS Own
theorem jr_save (lb db mb ep : Nat) (g : Lg) (d : Dv) (R : List HP) (w : LgW g) (hg : g.hd.gen < 9223372036854775808) (he : ep < 18446744073709551616) (ok : d.Ok) (hwt : d.waits.length ≤ 100000) :
    TriE Tryz.prog 105 #[.pointer (some ⟨lb, 0, none⟩), .int .u64 ep] (fun v M => v = .int .i64 (saveP d g ep).2.2 ∧ M = LgP lb db (saveP d g ep).2.1 mb :: DevH db (saveP d g ep).1 :: R) (LgP lb db g mb :: DevH db d :: R) := by
  have hlog := w.eq
  have hl4 := w.l4
  have hcl := w.cur
  have hsq := w.sq
  refine Tri.of (N := 41) (args := [.pointer (some ⟨lb, 0, none⟩), .int .u64 ep]) Tryz.func105 rfl rfl rfl ?_
  refine go ?_
  refine W.drawB #[0, 1, 3, 7, 15, 31, 0, 0, 128, 384, 896, 0, 2048, 6144, 14336, 0, 32768, 98304, 229376, 491520, 1048575, 0, 4194303] [LgP lb db g mb] (DevH db d :: R) rfl (by kernel_rfl) (by kernel_rfl) (by kernel_rfl) ent ?_
  refine go ?_
  refine DB.alloc rfl ?_
  intro b5
  refine DB.v rfl rfl rfl hl hl ?_
  refine SV.store rfl rfl cel rfl rfl rfl frz le0 nl ?_
  have hn : (g.next ep).L = [.int .u64 ((g.hd.gen : Int) + 1), .int .u64 ep, .int .i64 g.cur, .int .u64 g.seq, .int .i64 g.hd.log] := rfl
  have fit : (g.next ep).Fit := by
    unfold Lg.next
    exact ⟨by dsimp only; omega, he, hsq, by dsimp only; omega, by dsimp only; omega⟩
  have hsp : saveP d g ep = if (saveS d (g.next ep)).2 = 0 then ((saveS d (g.next ep)).1, { g with hd := g.next ep }, 0) else ((saveS d (g.next ep)).1, g, (saveS d (g.next ep)).2) := rfl
  refine ⟨[], pts b5 (.cells (g.next ep).L.toArray 137) :: DevH db d :: R, ent, ?_⟩
  refine go ?_
  refine ⟨pts b5 (.cells (g.next ep).L.toArray 137) :: LgP lb db g mb :: DevH db d :: R, ent, ?_⟩
  refine goC ?_
  refine W.drawB #[0, 1, 3, 7, 0, 31, 63] [pts b5 (.cells (g.next ep).L.toArray 137), LgP lb db g mb] (DevH db d :: R) rfl (by kernel_rfl) (by kernel_rfl) (by kernel_rfl) ent ?_
  refine go ?_
  refine DB.callE (vs := [.pointer (some ⟨db, 0, none⟩), .agg (g.next ep).L.toArray]) Tryz.func119 rfl rfl rfl rfl hl hl (TriE.ent (A := DevH db d :: pts b5 (.cells (g.next ep).L.toArray 137) :: LgP lb db g mb :: R) ent (h9_Save db d (g.next ep) _ ok hwt fit)) ?_
  rintro v M ⟨rfl, rfl⟩
  rw [hsp]
  clear hsp
  generalize hq : saveS d (g.next ep) = q at *
  refine ⟨[], DevH db q.1 :: R, ent, ?_⟩
  refine go ?_
  refine ⟨pts b5 (.cells (g.next ep).L.toArray 137) :: LgP lb db g mb :: DevH db q.1 :: R, ent, ?_⟩
  obtain ⟨d2, z⟩ := q
  dsimp only
  by_cases hz : z = 0
  · subst hz
    rw [if_pos rfl]
    refine go ?_
    exact ⟨rfl, [_], ⟨Res.tmp rfl, trivial⟩, LgP lb db { g with hd := g.next ep } mb :: DevH db d2 :: R, ent, rfl, rfl⟩
  · rw [if_neg hz]
    refine go ?_
    exact ⟨rfl, [_], ⟨Res.tmp rfl, trivial⟩, LgP lb db g mb :: DevH db d2 :: R, ent, rfl, rfl⟩
end Go.SL
