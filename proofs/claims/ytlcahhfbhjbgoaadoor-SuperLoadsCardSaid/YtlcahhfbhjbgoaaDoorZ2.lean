/- Layer 9: heads: what they are, and the small functions. -/
import Derived.Test.YtlcahhfbhjbgoaaDoorSlJ
import Derived.Test.YtlcahhfbhjbgoaaDoorZ1
namespace Go.SL
open Go.Proofs
set_option linter.unusedVariables false
set_option maxRecDepth 10000
set_option maxHeartbeats 4000000
attribute [local irreducible] W WO SV OW SW Tri Ent Tk Has Src SrcK DA DB RdS Own

structure Hd where
  gen : Nat
  epoch : Nat
  pos : Int
  seq : Nat
  log : Int
abbrev hdL (g e : Nat) (p : Int) (s : Nat) (l : Int) : List Value := [.int .u64 g, .int .u64 e, .int .i64 p, .int .u64 s, .int .i64 l]
def Hd.L (h : Hd) : List Value := hdL h.gen h.epoch h.pos h.seq h.log
def Hd.zero : Hd := ⟨0, 0, 0, 0, 0⟩
structure Hd.Fit (h : Hd) : Prop where
  g : h.gen < 18446744073709551616
  e : h.epoch < 18446744073709551616
  s : h.seq < 18446744073709551616
  p : -9223372036854775808 ≤ h.pos ∧ h.pos ≤ 9223372036854775807
  l : -9223372036854775808 ≤ h.log ∧ h.log ≤ 9223372036854775807
/-- Whether one may be, on so many blocks. -/
def HdR (h : Hd) (b : Int) : Prop := 1 ≤ h.gen ∧ h.gen ≤ 4611686018427387904 ∧ 1 ≤ h.epoch ∧ h.epoch ≤ 4611686018427387904 ∧ 1 ≤ h.seq ∧ h.seq ≤ 4611686018427387904 ∧ 3 ≤ h.log ∧ 6 ≤ b ∧ h.log ≤ b - 3 ∧ 0 ≤ h.pos ∧ h.pos < h.log
instance (h : Hd) (b : Int) : Decidable (HdR h b) := by unfold HdR; infer_instance
/-- The bytes of one, its block. -/
def Hd.enc (h : Hd) : Byt := encN h.epoch ++ (encN h.pos.toNat ++ (encN h.seq ++ encN h.log.toNat))
def Hd.put (h : Hd) : Byt := sealB 9 h.gen h.gen h.enc
/-- What is read of a block, and whether it is to the end. -/
def hdRead (s : Byt) : Hd × Nat :=
  let n1 := (LI.mk (rB s) 0).num
  let n2 := n1.1.small 4096
  let n3 := n2.1.num
  let n4 := n3.1.small 4096
  (⟨rE s, n1.2, n2.2, n3.2, n4.2⟩, n4.1.fin)
def hdOk (s : Byt) (b : Int) : Bool := rOK s && decide (rK s = 9 ∧ rE s = rQ s) && decide ((hdRead s).2 = 0) && decide (HdR (hdRead s).1 (min b 4096))
def hdOf (s : Byt) (b : Int) : Hd := bif hdOk s b then (hdRead s).1 else Hd.zero

theorem h9_within (v : Nat) (L : List HP) : TriE Tryd.prog 51 #[.int .u64 v] (fun r M => r = .bool (decide (1 ≤ v ∧ v ≤ 4611686018427387904)) ∧ M = L) L := by
  refine Tri.of (N := 9) (args := [.int .u64 v]) Tryd.func51 rfl rfl rfl ?_
  by_cases h1 : 1 ≤ v
  · by_cases h2 : v ≤ 4611686018427387904
    · refine go ?_
      exact ⟨rfl, [_], ⟨Res.tmp rfl, trivial⟩, L, ent, by rw [decide_eq_true ⟨h1, h2⟩]; rfl, rfl⟩
    · refine go ?_
      exact ⟨rfl, [_], ⟨Res.tmp rfl, trivial⟩, L, ent, by rw [decide_eq_false (fun g => h2 g.2)]; rfl, rfl⟩
  · refine go ?_
    exact ⟨rfl, [_], ⟨Res.tmp rfl, trivial⟩, L, ent, by rw [decide_eq_false (fun g => h1 g.1)]; rfl, rfl⟩
theorem h9_slot (h : Hd) (L : List HP) : TriE Tryd.prog 38 #[.agg h.L.toArray] (fun r M => r = .int .i64 ((h.gen % 2 : Nat) : Int) ∧ M = L) L := by
  obtain ⟨g, e, p, s, l⟩ := h
  refine Tri.of (N := 7) (args := [.agg (hdL g e p s l).toArray]) Tryd.func38 rfl rfl rfl ?_
  refine go ?_
  intro b1
  refine go ?_
  exact ⟨rfl, [_], ⟨Res.tmp rfl, trivial⟩, L, ent, rfl, rfl⟩
theorem r9_Right (h : Hd) (b : Int) (L : List HP) (hb : -9223372036854775808 ≤ b ∧ b ≤ 9223372036854775807) : TriE Tryd.prog 20 #[.agg h.L.toArray, .int .i64 b] (fun r M => r = .bool (decide (HdR h b)) ∧ M = L) L := by
  obtain ⟨g, e, p, s, l⟩ := h
  refine Tri.of (N := 61) (args := [.agg (hdL g e p s l).toArray, .int .i64 b]) Tryd.func20 rfl rfl rfl ?_
  dsimp only [hdL]
  refine go ?_
  intro b2
  by_cases h0 : 1 ≤ g
  rotate_left
  · refine go ?_
    exact ⟨rfl, [_], ⟨Res.tmp rfl, trivial⟩, L, ent, by rw [decide_eq_false (show ¬HdR ⟨g, e, p, s, l⟩ b from by unfold HdR; dsimp only; omega)]; rfl, rfl⟩
  by_cases h1 : g ≤ 4611686018427387904
  rotate_left
  · refine go ?_
    exact ⟨rfl, [_], ⟨Res.tmp rfl, trivial⟩, L, ent, by rw [decide_eq_false (show ¬HdR ⟨g, e, p, s, l⟩ b from by unfold HdR; dsimp only; omega)]; rfl, rfl⟩
  by_cases h2 : 1 ≤ e
  rotate_left
  · refine go ?_
    exact ⟨rfl, [_], ⟨Res.tmp rfl, trivial⟩, L, ent, by rw [decide_eq_false (show ¬HdR ⟨g, e, p, s, l⟩ b from by unfold HdR; dsimp only; omega)]; rfl, rfl⟩
  by_cases h3 : e ≤ 4611686018427387904
  rotate_left
  · refine go ?_
    exact ⟨rfl, [_], ⟨Res.tmp rfl, trivial⟩, L, ent, by rw [decide_eq_false (show ¬HdR ⟨g, e, p, s, l⟩ b from by unfold HdR; dsimp only; omega)]; rfl, rfl⟩
  by_cases h4 : 1 ≤ s
  rotate_left
  · refine go ?_
    exact ⟨rfl, [_], ⟨Res.tmp rfl, trivial⟩, L, ent, by rw [decide_eq_false (show ¬HdR ⟨g, e, p, s, l⟩ b from by unfold HdR; dsimp only; omega)]; rfl, rfl⟩
  by_cases h5 : s ≤ 4611686018427387904
  rotate_left
  · refine go ?_
    exact ⟨rfl, [_], ⟨Res.tmp rfl, trivial⟩, L, ent, by rw [decide_eq_false (show ¬HdR ⟨g, e, p, s, l⟩ b from by unfold HdR; dsimp only; omega)]; rfl, rfl⟩
  by_cases h6 : 3 ≤ l
  rotate_left
  · refine go ?_
    exact ⟨rfl, [_], ⟨Res.tmp rfl, trivial⟩, L, ent, by rw [decide_eq_false (show ¬HdR ⟨g, e, p, s, l⟩ b from by unfold HdR; dsimp only; omega)]; rfl, rfl⟩
  by_cases h7 : 6 ≤ b
  rotate_left
  · refine go ?_
    exact ⟨rfl, [_], ⟨Res.tmp rfl, trivial⟩, L, ent, by rw [decide_eq_false (show ¬HdR ⟨g, e, p, s, l⟩ b from by unfold HdR; dsimp only; omega)]; rfl, rfl⟩
  by_cases h8 : l ≤ b - 3
  rotate_left
  · refine go ?_
    exact ⟨rfl, [_], ⟨Res.tmp rfl, trivial⟩, L, ent, by rw [decide_eq_false (show ¬HdR ⟨g, e, p, s, l⟩ b from by unfold HdR; dsimp only; omega)]; rfl, rfl⟩
  by_cases h9 : 0 ≤ p
  rotate_left
  · refine go ?_
    exact ⟨rfl, [_], ⟨Res.tmp rfl, trivial⟩, L, ent, by rw [decide_eq_false (show ¬HdR ⟨g, e, p, s, l⟩ b from by unfold HdR; dsimp only; omega)]; rfl, rfl⟩
  by_cases h10 : p < l
  rotate_left
  · refine go ?_
    exact ⟨rfl, [_], ⟨Res.tmp rfl, trivial⟩, L, ent, by rw [decide_eq_false (show ¬HdR ⟨g, e, p, s, l⟩ b from by unfold HdR; dsimp only; omega)]; rfl, rfl⟩
  refine go ?_
  exact ⟨rfl, [_], ⟨Res.tmp rfl, trivial⟩, L, ent, by rw [decide_eq_true (show HdR ⟨g, e, p, s, l⟩ b from by unfold HdR; dsimp only; omega)]; rfl, rfl⟩
theorem h9_Right (h : Hd) (b : Int) (L : List HP) (hb : -9223372036854775808 ≤ b ∧ b ≤ 9223372036854775807) : TriE Tryd.prog 36 #[.agg h.L.toArray, .int .i64 b] (fun r M => r = .bool (decide (HdR h b)) ∧ M = L) L := by
  obtain ⟨g, e, p, s, l⟩ := h
  refine Tri.of (N := 47) (args := [.agg (hdL g e p s l).toArray, .int .i64 b]) Tryd.func36 rfl rfl rfl ?_
  dsimp only [hdL]
  refine go ?_
  intro b2
  refine go ?_
  refine WO.callE (vs := [.int .u64 g]) Tryd.func51 rfl rfl rfl rfl (h9_within g _) ?_
  rintro v M ⟨rfl, rfl⟩
  by_cases h0 : 1 ≤ g ∧ g ≤ 4611686018427387904
  rotate_left
  · rw [decide_eq_false h0]
    refine go ?_
    exact ⟨rfl, [_], ⟨Res.tmp rfl, trivial⟩, L, ent, by rw [decide_eq_false (show ¬HdR ⟨g, e, p, s, l⟩ b from by unfold HdR; dsimp only; omega)]; rfl, rfl⟩
  rw [decide_eq_true h0]
  refine go ?_
  refine WO.callE (vs := [.int .u64 e]) Tryd.func51 rfl rfl rfl rfl (h9_within e _) ?_
  rintro v M ⟨rfl, rfl⟩
  by_cases h1 : 1 ≤ e ∧ e ≤ 4611686018427387904
  rotate_left
  · rw [decide_eq_false h1]
    refine go ?_
    exact ⟨rfl, [_], ⟨Res.tmp rfl, trivial⟩, L, ent, by rw [decide_eq_false (show ¬HdR ⟨g, e, p, s, l⟩ b from by unfold HdR; dsimp only; omega)]; rfl, rfl⟩
  rw [decide_eq_true h1]
  refine go ?_
  refine WO.callE (vs := [.int .u64 s]) Tryd.func51 rfl rfl rfl rfl (h9_within s _) ?_
  rintro v M ⟨rfl, rfl⟩
  by_cases h2 : 1 ≤ s ∧ s ≤ 4611686018427387904
  rotate_left
  · rw [decide_eq_false h2]
    refine go ?_
    exact ⟨rfl, [_], ⟨Res.tmp rfl, trivial⟩, L, ent, by rw [decide_eq_false (show ¬HdR ⟨g, e, p, s, l⟩ b from by unfold HdR; dsimp only; omega)]; rfl, rfl⟩
  rw [decide_eq_true h2]
  by_cases t0 : 3 ≤ l
  rotate_left
  · refine go ?_
    exact ⟨rfl, [_], ⟨Res.tmp rfl, trivial⟩, L, ent, by rw [decide_eq_false (show ¬HdR ⟨g, e, p, s, l⟩ b from by unfold HdR; dsimp only; omega)]; rfl, rfl⟩
  by_cases t1 : 6 ≤ b
  rotate_left
  · refine go ?_
    exact ⟨rfl, [_], ⟨Res.tmp rfl, trivial⟩, L, ent, by rw [decide_eq_false (show ¬HdR ⟨g, e, p, s, l⟩ b from by unfold HdR; dsimp only; omega)]; rfl, rfl⟩
  by_cases t2 : l ≤ b - 3
  rotate_left
  · refine go ?_
    exact ⟨rfl, [_], ⟨Res.tmp rfl, trivial⟩, L, ent, by rw [decide_eq_false (show ¬HdR ⟨g, e, p, s, l⟩ b from by unfold HdR; dsimp only; omega)]; rfl, rfl⟩
  by_cases t3 : 0 ≤ p
  rotate_left
  · refine go ?_
    exact ⟨rfl, [_], ⟨Res.tmp rfl, trivial⟩, L, ent, by rw [decide_eq_false (show ¬HdR ⟨g, e, p, s, l⟩ b from by unfold HdR; dsimp only; omega)]; rfl, rfl⟩
  by_cases t4 : p < l
  rotate_left
  · refine go ?_
    exact ⟨rfl, [_], ⟨Res.tmp rfl, trivial⟩, L, ent, by rw [decide_eq_false (show ¬HdR ⟨g, e, p, s, l⟩ b from by unfold HdR; dsimp only; omega)]; rfl, rfl⟩
  refine go ?_
  exact ⟨rfl, [_], ⟨Res.tmp rfl, trivial⟩, L, ent, by rw [decide_eq_true (show HdR ⟨g, e, p, s, l⟩ b from by unfold HdR; dsimp only; omega)]; rfl, rfl⟩
end Go.SL

/- Layer 9: heads: their blocks, and what is read of a block. -/
namespace Go.SL
open Go.Proofs
set_option linter.unusedVariables false
set_option maxRecDepth 10000
set_option maxHeartbeats 4000000
attribute [local irreducible] W WO SV OW SW Tri Ent Tk Has Src SrcK DA DB RdS Own

theorem Hd.enc_len (h : Hd) (fit : h.Fit) : h.enc.length ≤ 220 := by
  have h1 := encN_len fit.e
  have h2 := encN_len (v := h.pos.toNat) (by have := fit.p; omega)
  have h3 := encN_len fit.s
  have h4 := encN_len (v := h.log.toNat) (by have := fit.l; omega)
  unfold Hd.enc
  simp only [List.length_append]
  omega
theorem mkR9 : mkR 9 = true := rfl
theorem r9_Put (h : Hd) (L : List HP) (fit : h.Fit) (h0 : 0 ≤ h.pos ∧ 0 ≤ h.log) : TriE Tryd.prog 21 #[.agg h.L.toArray] (fun r M => r = strV h.put ∧ M = L) L := by
  have hel := h.enc_len fit
  have fp := fit.p
  have fl := fit.l
  have p1 := fun L => r1_Put [] h.epoch L (by simp) fit.e
  have p2 := fun L => r1_Put (encN h.epoch) h.pos.toNat L (by have := encN_len fit.e; omega) (by omega)
  have p3 := fun L => r1_Put (encN h.epoch ++ encN h.pos.toNat) h.seq L (by have := encN_len fit.e; have := encN_len (v := h.pos.toNat) (by omega); simp; omega) fit.s
  have p4 := fun L => r1_Put (encN h.epoch ++ encN h.pos.toNat ++ encN h.seq) h.log.toNat L (by have := encN_len fit.e; have := encN_len (v := h.pos.toNat) (by omega); have := encN_len fit.s; simp; omega) (by omega)
  have e5 : encN h.epoch ++ encN h.pos.toNat ++ encN h.seq ++ encN h.log.toNat = h.enc := by simp [Hd.enc]
  have ps := fun L => rm_Seal 9 h.gen h.gen h.enc L hel
  have epz : h.pos = ((h.pos.toNat : Nat) : Int) := by omega
  have elz : h.log = ((h.log.toNat : Nat) : Int) := by omega
  have hg := fit.g
  have eput : h.put = sealB 9 h.gen h.gen h.enc := rfl
  rw [e5] at p4
  rw [eput]
  rw [List.nil_append] at p1
  obtain ⟨g, e, p, s, l⟩ := h
  dsimp only at *
  generalize Hd.enc ⟨g, e, p, s, l⟩ = en at *
  generalize p.toNat = pn at *
  generalize l.toNat = ln at *
  subst epz; subst elz
  refine Tri.of (N := 26) (args := [.agg (hdL g e pn s ln).toArray]) Tryd.func21 rfl rfl rfl ?_
  dsimp only [hdL]
  refine go ?_
  intro b1
  refine go ?_
  refine W.drawB #[0, 1, 3, 0, 8, 24, 63, 127] [pts b1 (.cells [.int .u64 g, .int .u64 e, .int .i64 pn, .int .u64 s, .int .i64 ln].toArray 53)] L rfl (by kernel_rfl) (by kernel_rfl) (by kernel_rfl) ent ?_
  refine go ?_
  refine DB.callE (vs := [strV [], .int .u64 e]) Tryd.func40 rfl rfl rfl rfl hl hl (p1 _) ?_
  rintro v M ⟨rfl, rfl⟩
  refine ⟨[], L, ent, ?_⟩
  refine go ?_
  refine DB.callE (vs := [strV (encN e), .int .u64 pn]) Tryd.func40 rfl rfl rfl rfl hl hl (p2 _) ?_
  rintro v M ⟨rfl, rfl⟩
  refine ⟨[], L, ent, ?_⟩
  refine go ?_
  refine ⟨pts b1 (.cells [.int .u64 g, .int .u64 e, .int .i64 pn, .int .u64 s, .int .i64 ln].toArray 53) :: L, ent, ?_⟩
  refine go ?_
  refine W.drawB #[0, 0, 2, 7, 0, 16, 48, 127, 255] [pts b1 (.cells [.int .u64 g, .int .u64 e, .int .i64 pn, .int .u64 s, .int .i64 ln].toArray 53)] L rfl (by kernel_rfl) (by kernel_rfl) (by kernel_rfl) ent ?_
  refine go ?_
  refine DB.callE (vs := [strV (encN e ++ encN pn), .int .u64 s]) Tryd.func40 rfl rfl rfl rfl hl hl (p3 _) ?_
  rintro v M ⟨rfl, rfl⟩
  refine ⟨[], L, ent, ?_⟩
  refine go ?_
  refine DB.callE (vs := [strV (encN e ++ encN pn ++ encN s), .int .u64 ln]) Tryd.func40 rfl rfl rfl rfl hl hl (p4 _) ?_
  rintro v M ⟨rfl, rfl⟩
  refine ⟨[], L, ent, ?_⟩
  refine go ?_
  refine ⟨pts b1 (.cells [.int .u64 g, .int .u64 e, .int .i64 pn, .int .u64 s, .int .i64 ln].toArray 53) :: L, ent, ?_⟩
  refine go ?_
  refine WO.callE (vs := [.agg (mkL 9 g g).toArray, strV en]) Tryd.func10 rfl rfl rfl rfl (ps _) ?_
  rintro v M ⟨rfl, rfl⟩
  refine go ?_
  exact ⟨rfl, [_], ⟨Res.tmp rfl, trivial⟩, L, ent, rfl, rfl⟩
theorem h9_Put (h : Hd) (L : List HP) (fit : h.Fit) : TriE Tryd.prog 37 #[.agg h.L.toArray] (fun r M =>
    (¬HdR h 4096 ∧ r = .tuple #[.slice none 0 0, .int .i64 2] ∧ M = L) ∨ (HdR h 4096 ∧ ∃ a c, r = .tuple #[.slice a h.put.length c, .int .i64 0] ∧ SomeA a h.put.length ∧ M = OS a c h.put :: L)) L := by
  have hel := h.enc_len fit
  have fp := fit.p
  have fl := fit.l
  have hg := fit.g
  have he := fit.e
  have hs := fit.s
  have hRi := fun L => h9_Right h 4096 L (by decide)
  have eput : h.put = sealB 9 h.gen h.gen h.enc := rfl
  have eenc : ([] : Byt) ++ [h.epoch, h.pos.toNat, h.seq, h.log.toNat].flatMap encN = h.enc := by simp [Hd.enc]
  have hpl : h.put.length = 256 := sealB_len hel
  have hpR : HdR h 4096 → 0 ≤ h.pos ∧ 0 ≤ h.log := by unfold HdR; intro g; omega
  obtain ⟨g, e, p, s, l⟩ := h
  refine Tri.of (N := 29) (args := [.agg (hdL g e p s l).toArray]) Tryd.func37 rfl rfl rfl ?_
  dsimp only [hdL]
  dsimp only at hg he hs fp fl
  refine go ?_
  intro b1
  refine go ?_
  refine WO.callE (vs := [.agg (hdL g e p s l).toArray, .int .i64 4096]) Tryd.func36 rfl rfl rfl rfl (hRi _) ?_
  rintro v M ⟨rfl, rfl⟩
  by_cases hr : HdR ⟨g, e, p, s, l⟩ 4096
  rotate_left
  · rw [decide_eq_false hr]
    refine go ?_
    exact ⟨rfl, [_, _], ⟨Res.tmp rfl, Res.tmp rfl, trivial⟩, L, ent, .inl ⟨hr, rfl, rfl⟩⟩
  rw [decide_eq_true hr]
  have h0 := hpR hr
  dsimp only at h0 eenc
  have epz : p = ((p.toNat : Nat) : Int) := by omega
  have elz : l = ((l.toNat : Nat) : Int) := by omega
  refine go ?_
  refine WO.sv rfl ?_
  refine SV.lit rfl rfl rfl parts rfl nl ?_
  intro b18
  rw [show [Value.int .u64 e, .int .u64 p, .int .u64 s, .int .u64 l] = [e, p.toNat, s, l.toNat].map u64V by simp only [List.map_cons, List.map_nil, u64V]; rw [← epz, ← elz]]
  refine go ?_
  refine WO.callE (vs := [.slice none ([] : Byt).length 0, .slice (some ⟨b18, 0, none⟩) [e, p.toNat, s, l.toNat].length 4]) Tryd.func52 rfl rfl rfl rfl
    (l1_Put none 0 [] (some ⟨b18, 0, none⟩) 4 [e, p.toNat, s, l.toNat] _ (by simp) (by simp) (by simp; omega) RdS.nil (RdS.all (sz := 1) (n := 4) rfl)) ?_
  rintro v M ⟨a2, c2, rfl, s2, rfl⟩
  rw [eenc] at s2 ⊢
  refine go ?_
  refine WO.callE (vs := [.agg (mkL 9 g g).toArray, .slice a2 (Hd.enc ⟨g, e, p, s, l⟩).length c2]) Tryd.func8 rfl rfl rfl rfl (mk_Seal 9 g g a2 c2 (Hd.enc ⟨g, e, p, s, l⟩) _ hg hg (by omega) (OS.rd Tk.here s2)) ?_
  rintro v M (⟨h, _⟩ | ⟨_, h, _⟩ | ⟨_, _, a3, c3, rfl, s3, _, rfl⟩)
  · rw [mkR9] at h; cases h
  · omega
  refine go ?_
  exact ⟨rfl, [_, _], ⟨Res.tmp rfl, Res.tmp rfl, trivial⟩, _, ent, .inr ⟨hr, a3, c3, rfl, s3, rfl⟩⟩
end Go.SL

/- Layer 9: heads: what is read of a block, walked. -/
namespace Go.SL
open Go.Proofs
set_option linter.unusedVariables false
set_option maxRecDepth 10000
set_option maxHeartbeats 4000000
attribute [local irreducible] W WO SV OW SW Tri Ent Tk Has Src SrcK DA DB RdS Own

theorem LI.small_len (i : LI) (m : Nat) : (i.small m).1.b.length ≤ i.b.length := by
  unfold LI.small
  split
  · simp [LI.no]
  · exact i.num_len
theorem LI.small_le (i : LI) (m : Nat) : (i.small m).2 ≤ m := by
  unfold LI.small
  split
  · exact Nat.zero_le _
  · rename_i h
    by_cases h0 : i.num.1.bad = 0
    · have : ¬m < i.num.2 := fun g => h ⟨h0, g⟩
      omega
    · rw [i.num_bad h0]; exact Nat.zero_le _
theorem rB_len (s : Byt) : (rB s).length ≤ 256 := by
  unfold rB
  cases h : rOK s with
  | false => simp
  | true =>
    have := (rOK_iff.1 h).1
    simp [opB]
    omega
theorem rE_lt (s : Byt) : rE s < 18446744073709551616 := by
  unfold rE
  cases rOK s
  · show 0 < _; decide
  · exact nbe_64 s 1
theorem r9_Of (s : Byt) (b : Int) (L : List HP) (hb : -9223372036854775808 ≤ b ∧ b ≤ 9223372036854775807) :
    TriE Tryd.prog 22 #[strV s, .int .i64 b] (fun v M => v = .tuple #[.agg (hdOf s b).L.toArray, .bool (hdOk s b)] ∧ M = L) L := by
  have e0 : hdOk s b = (rOK s && decide (rK s = 9 ∧ rE s = rQ s) && decide ((hdRead s).2 = 0) && decide (HdR (hdRead s).1 (min b 4096))) := rfl
  have no : hdOk s b = false → .tuple #[.agg (hdL 0 0 0 0 0).toArray, .bool false] = Value.tuple #[.agg (hdOf s b).L.toArray, .bool (hdOk s b)] := by
    intro h; unfold hdOf; rw [h]; rfl
  have yes : hdOk s b = true → .tuple #[.agg (hdRead s).1.L.toArray, .bool true] = Value.tuple #[.agg (hdOf s b).L.toArray, .bool (hdOk s b)] := by
    intro h; unfold hdOf; rw [h]; rfl
  have hRd : hdRead s = (⟨rE s, (LI.mk (rB s) 0).num.2, ((LI.mk (rB s) 0).num.1.small 4096).2, ((LI.mk (rB s) 0).num.1.small 4096).1.num.2, (((LI.mk (rB s) 0).num.1.small 4096).1.num.1.small 4096).2⟩, (((LI.mk (rB s) 0).num.1.small 4096).1.num.1.small 4096).1.fin) := rfl
  have hl0 := rB_len s
  have hOp := fun L => rm_Open s L
  have hN1 := fun L => r1_Number ⟨rB s, 0⟩ L (by dsimp only; omega)
  have l1 := (LI.mk (rB s) 0).num_len
  dsimp only at l1
  generalize (LI.mk (rB s) 0).num = n1 at *
  have hS2 := fun L => r1_Small n1.1 4096 L (by omega) (by decide)
  have l2 := n1.1.small_len 4096
  generalize n1.1.small 4096 = n2 at *
  have hN3 := fun L => r1_Number n2.1 L (by omega)
  have l3 := n2.1.num_len
  generalize n2.1.num = n3 at *
  have hS4 := fun L => r1_Small n3.1 4096 L (by omega) (by decide)
  generalize n3.1.small 4096 = n4 at *
  have hE := fun L => r1_End n4.1 L
  rw [hRd] at e0 yes
  dsimp only [Hd.L] at e0 yes
  have hRt := fun (bb : Int) (L : List HP) (h : -9223372036854775808 ≤ bb ∧ bb ≤ 9223372036854775807) => r9_Right ⟨rE s, n1.2, n2.2, n3.2, n4.2⟩ bb L h
  clear hRd
  generalize n4.1.fin = fz at *
  generalize rOK s = ok at *
  generalize rK s = k at *
  generalize rE s = e at *
  generalize rQ s = q at *
  generalize rB s = bs at *
  refine Tri.of (N := 80) (args := [strV s, .int .i64 b]) Tryd.func22 rfl rfl rfl ?_
  refine go ?_
  intro b4
  refine WO.sv rfl ?_
  refine SV.assign rfl ?_
  refine goC ?_
  refine W.cut (σ := Bool) 49152 rfl (fun t => [(15, .bool t)]) (fun _ => pts b4 (.cells (hdL 0 0 0 0 0).toArray 53) :: L) (fun t => t = decide (4096 < b)) ?_ ?_
  · by_cases h : 4096 < b
    · refine go ?_
      exact ⟨true, ⟨rfl, trivial⟩, rfl, (decide_eq_true h).symm, ent⟩
    · refine go ?_
      exact ⟨false, ⟨rfl, trivial⟩, rfl, (decide_eq_false h).symm, ent⟩
  rintro t bg ht
  refine goC ?_
  refine W.cut (σ := Unit) 2 rfl (fun t => [(1, .int .i64 (min b 4096))]) (fun _ => pts b4 (.cells (hdL 0 0 0 0 0).toArray 53) :: L) (fun _ => True) ?_ ?_
  · refine W.cond rfl (fun h => ?_) (fun h => ?_)
    · have h' : 4096 < b := by rw [ht] at h; simpa using h
      refine go ?_
      exact ⟨(), ⟨by rw [show min b 4096 = 4096 by omega]; rfl, trivial⟩, rfl, trivial, ent⟩
    · have h' : ¬4096 < b := by rw [ht] at h; simpa using h
      refine go ?_
      exact ⟨(), ⟨by rw [show min b 4096 = b by omega]; rfl, trivial⟩, rfl, trivial, ent⟩
  clear ht
  rintro - bg2 -
  have hmin : -9223372036854775808 ≤ min b 4096 ∧ min b 4096 ≤ 9223372036854775807 := by omega
  generalize min b 4096 = bb at *
  refine go ?_
  refine WO.callE (vs := [strV s]) Tryd.func13 rfl rfl rfl rfl (hOp _) ?_
  rintro v M ⟨rfl, rfl⟩
  refine go ?_
  intro b6
  have kn : k.toNat ≠ 9 → k ≠ 9 := fun h g => h (by rw [g]; rfl)
  cases ok with
  | false =>
    refine go ?_
    exact ⟨rfl, [_, _], ⟨Res.cell rfl le0 nl, Res.tmp rfl, trivial⟩, L, ent, no (by rw [e0]; rfl), rfl⟩
  | true =>
  have hk := k.toNat_lt
  by_cases hk9 : k.toNat = 9
  rotate_left
  · refine go ?_
    exact ⟨rfl, [_, _], ⟨Res.cell rfl le0 nl, Res.tmp rfl, trivial⟩, L, ent, no (by rw [e0, decide_eq_false (fun g => kn hk9 g.1)]; rfl), rfl⟩
  by_cases heq : e = q
  rotate_left
  · refine go ?_
    exact ⟨rfl, [_, _], ⟨Res.cell rfl le0 nl, Res.tmp rfl, trivial⟩, L, ent, no (by rw [e0, decide_eq_false (fun g => heq g.2)]; rfl), rfl⟩
  have hke : k = 9 ∧ e = q := ⟨UInt8.toNat_inj.1 hk9, heq⟩
  rw [decide_eq_true hke] at e0
  refine go ?_
  intro b9
  refine go ?_
  refine WO.callE (vs := [.agg (liL bs 0).toArray]) Tryd.func41 rfl rfl rfl rfl (hN1 _) ?_
  rintro v M ⟨rfl, rfl⟩
  refine go ?_
  intro b10
  refine go ?_
  refine WO.callE (vs := [.agg (liL n1.1.b n1.1.bad).toArray, .int .i64 4096]) Tryd.func42 rfl rfl rfl rfl (hS2 _) ?_
  rintro v M ⟨rfl, rfl⟩
  refine go ?_
  refine WO.callE (vs := [.agg (liL n2.1.b n2.1.bad).toArray]) Tryd.func41 rfl rfl rfl rfl (hN3 _) ?_
  rintro v M ⟨rfl, rfl⟩
  refine go ?_
  refine WO.callE (vs := [.agg (liL n3.1.b n3.1.bad).toArray, .int .i64 4096]) Tryd.func42 rfl rfl rfl rfl (hS4 _) ?_
  rintro v M ⟨rfl, rfl⟩
  refine go ?_
  refine WO.callE (vs := [.agg (liL n4.1.b n4.1.bad).toArray]) Tryd.func43 rfl rfl rfl rfl (hE _) ?_
  rintro v M ⟨rfl, rfl⟩
  by_cases hf : fz = 0
  rotate_left
  · refine go ?_
    exact ⟨rfl, [_, _], ⟨Res.cell rfl le0 nl, Res.tmp rfl, trivial⟩, L, ent, no (by rw [e0, decide_eq_false hf]; rfl), rfl⟩
  rw [decide_eq_true hf] at e0
  refine go ?_
  refine WO.callE (vs := [.agg (hdL e n1.2 n2.2 n3.2 n4.2).toArray, .int .i64 bb]) Tryd.func20 rfl rfl rfl rfl (hRt bb _ hmin) ?_
  rintro v M ⟨rfl, rfl⟩
  by_cases hR : HdR ⟨e, n1.2, n2.2, n3.2, n4.2⟩ bb
  · rw [decide_eq_true hR] at e0 ⊢
    refine go ?_
    exact ⟨rfl, [_, _], ⟨Res.cell rfl le0 nl, Res.tmp rfl, trivial⟩, L, ent, yes e0, rfl⟩
  · rw [decide_eq_false hR] at e0 ⊢
    refine go ?_
    exact ⟨rfl, [_, _], ⟨Res.cell rfl le0 nl, Res.tmp rfl, trivial⟩, L, ent, no e0, rfl⟩
end Go.SL

/- Layer 9: heads: what the program reads of a block, walked. -/
namespace Go.SL
open Go.Proofs
set_option linter.unusedVariables false
set_option maxRecDepth 10000
set_option maxHeartbeats 4000000
attribute [local irreducible] W WO SV OW SW Tri Ent Tk Has Src SrcK DA DB RdS Own

theorem h9_Of (X : HP) (a : Option Addr) (c : Nat) (s : Byt) (b : Int) (R : List HP) (hb : -9223372036854775808 ≤ b ∧ b ≤ 9223372036854775807) (hs : s.length ≤ 9223372036854775807) (hc : s.length ≤ c) (r : RdS 1 a s.length (s.map u8V) [X]) :
    TriE Tryd.prog 45 #[.slice a s.length c, .int .i64 b] (fun v M => v = .tuple #[.agg (hdOf s b).L.toArray, .bool (hdOk s b)] ∧ M = X :: R) (X :: R) := by
  have e0 : hdOk s b = (rOK s && decide (rK s = 9 ∧ rE s = rQ s) && decide ((hdRead s).2 = 0) && decide (HdR (hdRead s).1 (min b 4096))) := rfl
  have no : hdOk s b = false → .tuple #[.agg (hdL 0 0 0 0 0).toArray, .bool false] = Value.tuple #[.agg (hdOf s b).L.toArray, .bool (hdOk s b)] := by
    intro h; unfold hdOf; rw [h]; rfl
  have yes : hdOk s b = true → .tuple #[.agg (hdRead s).1.L.toArray, .bool true] = Value.tuple #[.agg (hdOf s b).L.toArray, .bool (hdOk s b)] := by
    intro h; unfold hdOf; rw [h]; rfl
  have hRd : hdRead s = (⟨rE s, (LI.mk (rB s) 0).num.2, ((LI.mk (rB s) 0).num.1.small 4096).2, ((LI.mk (rB s) 0).num.1.small 4096).1.num.2, (((LI.mk (rB s) 0).num.1.small 4096).1.num.1.small 4096).2⟩, (((LI.mk (rB s) 0).num.1.small 4096).1.num.1.small 4096).1.fin) := rfl
  have hl0 := rB_len s
  have hOp := fun R => mk_OpenU X a c s R hs hc r
  have hN1 := fun p L => l1_Number p ⟨rB s, 0⟩ L (by dsimp only; omega)
  have l1 := (LI.mk (rB s) 0).num_len
  dsimp only at l1
  generalize (LI.mk (rB s) 0).num = n1 at *
  have hS2 := fun p L => l1_Small p n1.1 4096 L (by omega) (by decide)
  have l2 := n1.1.small_len 4096
  generalize n1.1.small 4096 = n2 at *
  have hN3 := fun p L => l1_Number p n2.1 L (by omega)
  have l3 := n2.1.num_len
  generalize n2.1.num = n3 at *
  have hS4 := fun p L => l1_Small p n3.1 4096 L (by omega) (by decide)
  generalize n3.1.small 4096 = n4 at *
  have hE := fun p L => l1_End p n4.1 L
  rw [hRd] at e0 yes
  dsimp only [Hd.L] at e0 yes
  have hRt := fun (bb : Int) (L : List HP) (h : -9223372036854775808 ≤ bb ∧ bb ≤ 9223372036854775807) => h9_Right ⟨rE s, n1.2, n2.2, n3.2, n4.2⟩ bb L h
  clear hRd
  have hzt : rOK s = true → rZ s = 0 := by intro h; unfold rZ; rw [h]; rfl
  have hzf : rOK s = false → rZ s ≠ 0 := by
    intro h; unfold rZ; rw [h]
    show (if s.length = 256 then (11 : Int) else 2) ≠ 0
    split <;> decide
  generalize n4.1.fin = fz at *
  generalize rOK s = ok at *
  generalize rK s = k at *
  generalize rE s = e at *
  generalize rQ s = q at *
  generalize rB s = bs at *
  generalize rZ s = z at *
  have hmin : -9223372036854775808 ≤ min b 4096 ∧ min b 4096 ≤ 9223372036854775807 := by omega
  refine Tri.of (N := 57) (args := [.slice a s.length c, .int .i64 b]) Tryd.func45 rfl rfl rfl ?_
  refine go ?_
  intro b4
  refine go ?_
  refine WO.callE (vs := [.slice a s.length c]) Tryd.func12 rfl rfl rfl rfl (TriE.ent ent (hOp (pts b4 (.cells (hdL 0 0 0 0 0).toArray 46) :: R))) ?_
  rintro v M ⟨a7, c7, rfl, s7, eM⟩
  refine WO.ent eM ?_
  refine go ?_
  intro b6
  cases ok with
  | false =>
    have hz := hzf rfl
    refine go ?_
    exact ⟨rfl, [_, _], ⟨Res.cell rfl le0 nl, Res.tmp rfl, trivial⟩, X :: R, ent, no (by rw [e0]; rfl), rfl⟩
  | true =>
  obtain rfl := hzt rfl
  refine go ?_
  refine WO.sv rfl ?_
  refine SV.neqMk (k := k) (e := e) (s := q) (k' := 9) (e' := e) (s' := e) rfl rfl ?_
  by_cases hke : k = 9 ∧ e = q
  rotate_left
  · rw [decide_eq_false (show ¬(k = 9 ∧ e = e ∧ q = e) from fun g => hke ⟨g.1, g.2.2.symm⟩)]
    refine go ?_
    exact ⟨rfl, [_, _], ⟨Res.cell rfl le0 nl, Res.tmp rfl, trivial⟩, X :: R, ent, no (by rw [e0, decide_eq_false hke]; rfl), rfl⟩
  rw [decide_eq_true (show k = 9 ∧ e = e ∧ q = e from ⟨hke.1, rfl, hke.2.symm⟩)]
  rw [decide_eq_true hke] at e0
  refine go ?_
  refine WO.sv rfl ?_
  refine SV.toStrR rfl (bs := bs) (OS.rd tk s7) ?_
  refine go ?_
  refine WO.callE (vs := [strV bs]) Tryd.func54 rfl rfl rfl rfl (l1_Read bs _) ?_
  rintro v M ⟨p, rfl, rfl⟩
  refine go ?_
  refine W.drawB #[0, 1, 0, 4, 0, 28, 63, 0, 255] [pts b6 (.cells [u8V k, .int .u64 e, .int .u64 q].toArray 24)] (LIn p ⟨bs, 0⟩ :: pts b4 (.cells (hdL 0 0 0 0 0).toArray 46) :: X :: R) rfl (by kernel_rfl) (by kernel_rfl) (by kernel_rfl) ent ?_
  refine go ?_
  refine DB.callE (vs := [.pointer (some ⟨p, 0, none⟩)]) Tryd.func55 rfl rfl rfl rfl hl hl (TriE.ent ent (hN1 p (pts b6 (.cells [u8V k, .int .u64 e, .int .u64 q].toArray 24) :: pts b4 (.cells (hdL 0 0 0 0 0).toArray 46) :: X :: R))) ?_
  rintro v M ⟨rfl, rfl⟩
  refine ⟨[], LIn p n1.1 :: pts b4 (.cells (hdL 0 0 0 0 0).toArray 46) :: X :: R, ent, ?_⟩
  refine go ?_
  refine DB.callE (vs := [.pointer (some ⟨p, 0, none⟩), .int .i64 4096]) Tryd.func56 rfl rfl rfl rfl hl hl (TriE.ent ent (hS2 p (pts b6 (.cells [u8V k, .int .u64 e, .int .u64 q].toArray 24) :: pts b4 (.cells (hdL 0 0 0 0 0).toArray 46) :: X :: R))) ?_
  rintro v M ⟨rfl, rfl⟩
  refine ⟨[], LIn p n2.1 :: pts b4 (.cells (hdL 0 0 0 0 0).toArray 46) :: X :: R, ent, ?_⟩
  refine go ?_
  refine DB.alloc rfl ?_
  intro b10
  refine go ?_
  refine DB.v rfl rfl rfl hl hl ?_
  refine SV.store rfl rfl cel rfl rfl rfl frz le0 nl ?_
  refine ⟨[], pts b10 (.cells (hdL e n1.2 n2.2 0 0).toArray 46) :: LIn p n2.1 :: pts b4 (.cells (hdL 0 0 0 0 0).toArray 46) :: X :: R, ent, ?_⟩
  refine go ?_
  refine ⟨LIn p n2.1 :: pts b10 (.cells (hdL e n1.2 n2.2 0 0).toArray 46) :: pts b6 (.cells [u8V k, .int .u64 e, .int .u64 q].toArray 24) :: pts b4 (.cells (hdL 0 0 0 0 0).toArray 46) :: X :: R, ent, ?_⟩
  refine go ?_
  refine WO.callE (vs := [.pointer (some ⟨p, 0, none⟩)]) Tryd.func55 rfl rfl rfl rfl (hN3 p _) ?_
  rintro v M ⟨rfl, rfl⟩
  refine go ?_
  refine WO.callE (vs := [.pointer (some ⟨p, 0, none⟩), .int .i64 4096]) Tryd.func56 rfl rfl rfl rfl (hS4 p _) ?_
  rintro v M ⟨rfl, rfl⟩
  refine go ?_
  refine WO.callE (vs := [.pointer (some ⟨p, 0, none⟩)]) Tryd.func57 rfl rfl rfl rfl (hE p _) ?_
  rintro v M ⟨rfl, rfl⟩
  by_cases hf : fz = 0
  rotate_left
  · refine go ?_
    exact ⟨rfl, [_, _], ⟨Res.cell rfl le0 nl, Res.tmp rfl, trivial⟩, X :: R, ent, no (by rw [e0, decide_eq_false hf]; rfl), rfl⟩
  rw [decide_eq_true hf] at e0
  refine go ?_
  refine WO.callE (vs := [.agg (hdL e n1.2 n2.2 n3.2 n4.2).toArray, .int .i64 (min b 4096)]) Tryd.func36 rfl rfl rfl rfl (hRt (min b 4096) _ hmin) ?_
  rintro v M ⟨rfl, rfl⟩
  by_cases hR : HdR ⟨e, n1.2, n2.2, n3.2, n4.2⟩ (min b 4096)
  · rw [decide_eq_true hR] at e0 ⊢
    refine go ?_
    exact ⟨rfl, [_, _], ⟨Res.cell rfl le0 nl, Res.tmp rfl, trivial⟩, X :: R, ent, yes e0, rfl⟩
  · rw [decide_eq_false hR] at e0 ⊢
    refine go ?_
    exact ⟨rfl, [_, _], ⟨Res.cell rfl le0 nl, Res.tmp rfl, trivial⟩, X :: R, ent, no e0, rfl⟩
end Go.SL

/- Layer 7: a device made; slices repeated and cloned. -/
namespace Go.SL
open Go.Proofs
set_option linter.unusedVariables false
set_option maxRecDepth 10000
attribute [local irreducible] W WO SV OW SW Tri Ent Tk Has Src SrcK DA DB RdS Own

theorem u64bits : IntKind.bits .u64 = 64 := rfl
theorem u64_low {x : Nat} (hx : x < 4294967296) : IntKind.wrap .u64 ((((x : Int) % 2 ^ IntKind.bits .u64).toNat &&& ((4294967295 : Int) % 2 ^ IntKind.bits .u64).toNat : Nat) : Int) = x := by
  have e1 : ((x : Int) % 2 ^ IntKind.bits .u64).toNat = x := by rw [u64bits]; omega
  have e2 : ((4294967295 : Int) % 2 ^ IntKind.bits .u64).toNat = 2 ^ 32 - 1 := by rw [u64bits]; decide
  rw [e1, e2, Nat.and_two_pow_sub_one_eq_mod, Nat.mod_eq_of_lt (by omega)]
  exact u64w (by omega) (by omega)
theorem u64_hi (x : Nat) : (x : Int).fdiv (2 ^ (min (32 : Int).toNat (IntKind.bits .u64))) = ((x / 4294967296 : Nat) : Int) := by
  rw [u64bits, show min (32 : Int).toNat 64 = 32 from rfl, Int.fdiv_eq_ediv_of_nonneg _ (by decide)]
  norm_cast
theorem u64_low' (z : Int) {x : Nat} (hx : x < 4294967296) (h : z = x) : IntKind.wrap .u64 (((z % 2 ^ IntKind.bits .u64).toNat &&& ((4294967295 : Int) % 2 ^ IntKind.bits .u64).toNat : Nat) : Int) = x := by subst h; exact u64_low hx
theorem u64_hi' (z : Int) (x : Nat) (h : z = x) : z.fdiv (2 ^ (min (32 : Int).toNat (IntKind.bits .u64))) = ((x / 4294967296 : Nat) : Int) := by subst h; exact u64_hi x
theorem tup2 {k l : IntKind} {a b c d : Int} (h : a = c) (h2 : b = d) : retV [.int k a, .int l b] = .tuple #[.int k c, .int l d] := by rw [h, h2]; rfl
theorem f_Mul64 (x y : Nat) (L : List HP) (hx : x < 4294967296) (hy : y < 4294967296) :
    TriE Tryd.prog 66 #[.int .u64 x, .int .u64 y] (fun v M => v = .tuple #[.int .u64 0, .int .u64 ((x * y : Nat) : Int)] ∧ M = L) L := by
  have hp : x * y < 4294967296 * 4294967296 := Nat.mul_lt_mul'' hx hy
  refine Tri.of (N := 51) (args := [.int .u64 x, .int .u64 y]) Tryd.func66 rfl rfl rfl ?_
  refine go ?_
  refine WO.sv rfl ?_
  refine SV.band rfl rfl (u64_low hx) ?_
  refine go ?_
  refine WO.sv rfl ?_
  refine SV.shr rfl rfl (by decide) (u64_hi x) ?_
  rw [Nat.div_eq_of_lt hx]
  refine go ?_
  refine WO.sv rfl ?_
  refine SV.band rfl rfl (u64_low hy) ?_
  refine go ?_
  refine WO.sv rfl ?_
  refine SV.shr rfl rfl (by decide) (u64_hi y) ?_
  rw [Nat.div_eq_of_lt hy]
  refine go ?_
  obtain ⟨p, hpe⟩ : ∃ p, x * y = p := ⟨_, rfl⟩
  have hpi : (x : Int) * y = p := by rw [← hpe]; norm_cast
  rw [hpe] at hp
  rw [hpe, hpi]
  refine WO.sv rfl ?_
  refine SV.shr rfl rfl (by decide) (u64_hi p) ?_
  have hq : p / 4294967296 < 4294967296 := by omega
  generalize p / 4294967296 = q at hq ⊢
  refine go ?_
  refine WO.sv rfl ?_
  refine SV.band rfl rfl (u64_low' _ hq (by omega)) ?_
  refine go ?_
  refine WO.sv rfl ?_
  refine SV.shr rfl rfl (by decide) (u64_hi' _ q (by omega)) ?_
  rw [Nat.div_eq_of_lt hq]
  refine go ?_
  refine WO.sv rfl ?_
  refine SV.shr rfl rfl (by decide) (u64_hi' _ q (by omega)) ?_
  rw [Nat.div_eq_of_lt hq]
  refine go ?_
  refine ⟨rfl, [_, _], ⟨Res.tmp rfl, Res.tmp rfl, trivial⟩, L, ent, ?_, rfl⟩
  refine tup2 ?_ ?_
  · simp
  · exact hpi
theorem f_Mul (x y : Nat) (L : List HP) (hx : x < 4294967296) (hy : y < 4294967296) :
    TriE Tryd.prog 48 #[.int .u64 x, .int .u64 y] (fun v M => v = .tuple #[.int .u64 0, .int .u64 ((x * y : Nat) : Int)] ∧ M = L) L := by
  refine Tri.of (N := 30) (args := [.int .u64 x, .int .u64 y]) Tryd.func48 rfl rfl rfl ?_
  refine go ?_
  refine WO.callE (vs := [.int .u64 x, .int .u64 y]) Tryd.func66 rfl rfl rfl rfl (f_Mul64 x y _ hx hy) ?_
  rintro v M ⟨rfl, rfl⟩
  refine go ?_
  exact ⟨rfl, [_, _], ⟨Res.tmp rfl, Res.tmp rfl, trivial⟩, _, ent, rfl, rfl⟩

theorem lput_rep {v z : Value} (n m k : Nat) (h : n + k ≤ n + m) : lput (List.replicate n v ++ List.replicate m z) n (List.replicate k v) = List.replicate (n + k) v ++ List.replicate (m - k) z := by
  have key : ∀ n, lput (List.replicate n v ++ List.replicate m z) n (List.replicate k v) = List.replicate n v ++ lput (List.replicate m z) 0 (List.replicate k v) := by
    intro n
    induction n with
    | zero => simp
    | succ n ih =>
      cases k with
      | zero => simp [lput_nil]
      | succ k => rw [List.replicate_succ, List.replicate_succ, List.cons_append, lput, ← List.replicate_succ, ih, List.cons_append]
  have key2 : ∀ m k, k ≤ m → lput (List.replicate m z) 0 (List.replicate k v) = List.replicate k v ++ List.replicate (m - k) z := by
    intro m
    induction m with
    | zero => intro k h; have : k = 0 := by omega
              subst this; rfl
    | succ m ih =>
      intro k h
      cases k with
      | zero => simp [lput_nil]
      | succ k => rw [List.replicate_succ, List.replicate_succ, lput, ih k (by omega), List.cons_append]; congr 3; omega
  rw [key, key2 _ _ (by omega), ← List.append_assoc, List.replicate_append_replicate]
theorem sl_Repeat (a c n : Nat) (s : Byt) (L : List HP) (h1 : 1 ≤ n) (h2 : n ≤ 100000) (r : RdS 1 (some ⟨a, 0, none⟩) 1 [strV s] L) :
    TriE Tryd.prog 31 #[.slice (some ⟨a, 0, none⟩) 1 c, .int .i64 n] (fun v M => ∃ b : Nat, v = .slice (some ⟨b, 0, none⟩) n n ∧ M = Own 9 1 (.slice (some ⟨b, 0, none⟩) n n) n (List.replicate n (strV s)) :: L) L := by
  refine Tri.of (N := 48) (args := [.slice (some ⟨a, 0, none⟩) 1 c, .int .i64 n]) Tryd.func31 rfl rfl rfl ?_
  refine go ?_
  refine WO.callE (vs := [.int .u64 (1 : Nat), .int .u64 n]) Tryd.func48 rfl rfl rfl rfl (f_Mul 1 n _ (by decide) (by omega)) ?_
  rintro v M ⟨rfl, hM⟩
  rw [hM, Nat.one_mul]
  refine go ?_
  refine WO.sv rfl ?_
  refine SV.makeSlice rfl (m := n) rfl (by omega) (by omega) ?_
  intro b
  refine go ?_
  refine WO.sv rfl ?_
  refine SV.copyP rfl rfl (RdS.srcK (RdS.cons r)) rfl (by simp) (.inl (Nat.le_refl _)) (l' := List.replicate 1 (strV s) ++ List.replicate (n - 1) (strV [])) ?_ (by simp; omega) rfl ?_
  · rw [show min 1 n = 1 by omega]
    simp only [Nat.one_mul, List.take_succ_cons, List.take_zero, List.length_cons, List.length_nil, List.drop_replicate]
    rfl
  rw [show min 1 n = 1 by omega]
  refine go ?_
  refine W.loopS 140720308486400 rfl (fun k : Nat => [(8, .int .i64 k)]) (fun k => pts b (.cells (List.replicate k (strV s) ++ List.replicate (n - k) (strV [])).toArray 9) :: L) (fun k => 1 ≤ k ∧ k ≤ n) (fun k => n - k) 1 ⟨rfl, trivial⟩ ⟨by omega, by omega⟩ (Ent.app ent) ?_
  intro k bg ⟨hk1, hk2⟩
  refine go ?_
  refine WO.sv rfl ?_
  refine SV.lssC rfl rfl ?_ ?_
  · intro hlt
    refine go ?_
    have hlen : (List.replicate k (strV s) ++ List.replicate (n - k) (strV [])).length = n := by simp; omega
    refine W.drawB #[0, 0, 0, 6, 0, 0, 48, 126, 255, 511] [] (pts b (.cells (List.replicate k (strV s) ++ List.replicate (n - k) (strV [])).toArray 9) :: L) rfl (by kernel_rfl) (by kernel_rfl) (by kernel_rfl) (Ent.refl _) ?_
    refine go ?_
    refine DB.q (v := .slice (some ⟨b, k, none⟩) (n - k) (n - k)) rfl rfl hl (SV.cut rfl (cutAt.of rfl rfl) rfl hk2 (Nat.le_refl _) fun off' ho => ?_) ?_
    · rw [ho (.inl (by omega)), Nat.zero_add, Nat.mul_one]; exact eqq
    refine go ?_
    refine DB.q (v := .slice (some ⟨b, 0, none⟩) k n) rfl rfl hl (SV.cut rfl rfl (cutAt.of rfl rfl) (Nat.zero_le _) hk2 fun off' ho => ?_) ?_
    · rw [ho (.inr rfl)]; exact eqq
    refine go ?_
    refine DB.v rfl rfl rfl hl hl ?_
    have hsub : lsub (List.replicate k (strV s) ++ List.replicate (n - k) (strV [])) 0 (k * 1) = List.replicate k (strV s) := by
      rw [Nat.mul_one, lsub_eq, List.drop_zero, List.take_left' (by simp)]
    have hsrc := SrcK.row (P := Tryd.prog) (sz := 1) (b := b) (off := 0) (m := k) (cap := n) (l := List.replicate k (strV s) ++ List.replicate (n - k) (strV [])) (T := 9) (fr := (0, 0)) (L := pts b (.cells (List.replicate k (strV s) ++ List.replicate (n - k) (strV [])).toArray 9) :: L) (by rw [hlen]; omega)
    rw [hsub] at hsrc
    have hput : lput (List.replicate k (strV s) ++ List.replicate (n - k) (strV [])) k ((List.replicate k (strV s)).take (min k (n - k) * 1)) = List.replicate (k + min k (n - k)) (strV s) ++ List.replicate (n - (k + min k (n - k))) (strV []) := by
      rw [List.take_replicate, show min (min k (n - k) * 1) k = min k (n - k) by omega, lput_rep _ _ _ (by omega), show n - k - min k (n - k) = n - (k + min k (n - k)) by omega]
    refine SV.copy rfl rfl hsrc (by simp [isCell, strV]) (by rw [hlen]; omega) (.inl (Nat.le_refl _)) ?_ ?_
    · rw [hput]
      refine ⟨[], _, ent, ?_⟩
      refine go ?_
      refine ⟨_, Ent.refl _, ?_⟩
      refine go ?_
      refine ⟨k + min k (n - k), ⟨?_, trivial⟩, rfl, ⟨by omega, by omega⟩, by omega, fun _ _ x => x⟩
      show Value.int .i64 _ = _
      congr 1
    · intro e
      rw [List.take_replicate, List.replicate_eq_nil_iff] at e
      omega
  · intro hlt
    obtain rfl : k = n := by omega
    refine go ?_
    refine ⟨rfl, [_], ⟨Res.tmp rfl, trivial⟩, _, ?_, b, rfl, rfl⟩
    simp only [Nat.sub_self, List.replicate_zero, List.append_nil]
    exact Ent.trans ent (ent_own (by simp))
end Go.SL

/- Layer 7: a device: what its functions do, each walked once. -/
namespace Go.SL
open Go.Proofs
set_option linter.unusedVariables false
set_option maxRecDepth 10000
attribute [local irreducible] W WO SV OW SW Tri Ent Tk Has Src SrcK DA DB RdS Own

theorem sl_CloneStr (a : Option Addr) (n c : Nat) (xs : List Byt) (L : List HP) (hn : n ≤ 1000000) (r : RdS 1 a n (xs.map strV) L) :
    TriE Tryd.prog 32 #[.slice a n c] (fun v M => ∃ a' c', v = .slice a' n c' ∧ SomeA a' n ∧ M = Own 9 1 (.slice a' n c') n (xs.map strV) :: L) L := by
  refine Tri.of (N := 8) (args := [.slice a n c]) Tryd.func32 rfl rfl rfl ?_
  cases a with
  | none =>
    have h0 : n = 0 := Classical.byContradiction fun h0 => by obtain ⟨b, off, e⟩ := r.at h0; cases e
    subst h0
    have hx : xs = [] := by have := r.len; simpa using this
    subst hx
    refine go ?_
    exact ⟨rfl, [_], ⟨Res.tmp rfl, trivial⟩, _, Ent.ownNil (Ent.refl _), none, 0, rfl, fun h => absurd rfl h, rfl⟩
  | some a =>
    refine go ?_
    refine WO.sv rfl ?_
    refine SV.lit0 ?_
    intro b1
    refine go ?_
    refine WO.ent (ent_own (sz := 1) (n := 0) rfl) ?_
    refine WO.sv rfl ?_
    refine SV.append rfl rfl rfl tk (RdS.src r) (by rw [r.len]) (by simp [strV, isCell]) (by omega) rfl ?_
    intro a' c' ha'
    rw [Nat.zero_add, List.nil_append] at *
    refine go ?_
    exact ⟨rfl, [_], ⟨Res.tmp rfl, trivial⟩, _, ent, a', c', rfl, ha', rfl⟩
theorem DevH.close {b : Nat} {d : Dv} {L R : List HP} (x : DvX) (h1 : SomeA x.1 d.kept.length) (h2 : SomeA x.2.2.1 d.now.length) (h3 : SomeA x.2.2.2.2.1 d.waits.length) (e : Ent L (dvL b x d ++ R)) : Ent L (DevH b d :: R) :=
  Ent.closeI (p := fun x : DvX => SomeA x.1 d.kept.length ∧ SomeA x.2.2.1 d.now.length ∧ SomeA x.2.2.2.2.1 d.waits.length) x ⟨h1, h2, h3⟩ e
theorem DevH.opens {P : Program} {g : FuncId} {args : Array Value} {K : Value → List HP → Prop} {b : Nat} {d : Dv} {R : List HP}
    (h : ∀ x : DvX, SomeA x.1 d.kept.length → SomeA x.2.2.1 d.now.length → SomeA x.2.2.2.2.1 d.waits.length → Tri P g args K (dvL b x d ++ R)) : Tri P g args K (DevH b d :: R) :=
  Tri.openI (p := fun x : DvX => SomeA x.1 d.kept.length ∧ SomeA x.2.2.1 d.now.length ∧ SomeA x.2.2.2.2.1 d.waits.length) fun x hx => h x hx.1 hx.2.1 hx.2.2

def zero256 : Byt := List.replicate 256 0
def Dv.new (n : Nat) : Dv := ⟨List.replicate n zero256, List.replicate n zero256, [], -1, false, 0⟩
theorem Dv.new_ok {n : Nat} (h : n ≤ 4096) : (Dv.new n).Ok :=
  ⟨by simp [Dv.new], by simp [Dv.new]; exact h, fun s hs => by rw [List.mem_replicate.1 hs |>.2]; simp [zero256], fun s hs => by rw [List.mem_replicate.1 hs |>.2]; simp [zero256], fun w hw => (by cases hw), by simp [Dv.new], rfl⟩
theorem dv_New (n : Int) (L : List HP) (h1 : 1 ≤ n) (h2 : n ≤ 4096) :
    TriE Tryd.prog 16 #[.int .i64 n] (fun v M => ∃ b, v = .tuple #[.pointer (some ⟨b, 0, none⟩), .int .i64 0] ∧ M = DevH b (Dv.new n.toNat) :: L) L := by
  obtain ⟨m, rfl⟩ : ∃ m : Nat, n = m := ⟨n.toNat, by omega⟩
  refine Tri.of (N := 29) (args := [.int .i64 m]) Tryd.func16 rfl rfl rfl ?_
  refine go ?_
  refine WO.sv rfl ?_
  refine SV.makeSlice rfl (m := 256) rfl (by decide) (by decide) ?_
  intro b1
  refine WO.sv rfl ?_
  refine SV.toStr (bs := zero256) rfl (by simp) ?_ ?_
  · rw [lsub_eq, List.drop_zero, List.take_of_length_le (by simp), zero256, List.map_replicate]; rfl
  refine go ?_
  refine WO.sv rfl ?_
  refine SV.lit rfl rfl rfl parts rfl nl ?_
  intro b2
  refine go ?_
  refine WO.callE (vs := [.slice (some ⟨b2, 0, none⟩) 1 1, .int .i64 m]) Tryd.func31 rfl rfl rfl rfl (sl_Repeat b2 1 m zero256 _ (by omega) (by omega) (RdS.all rfl)) ?_
  rintro v M ⟨b3, rfl, rfl⟩
  refine go ?_
  intro b4
  refine go ?_
  have hm : m ≠ 0 := by omega
  have e0 : List.replicate m (strV zero256) = (List.replicate m zero256).map strV := by rw [List.map_replicate]
  rw [e0]
  refine WO.callE (vs := [.slice (some ⟨b3, 0, none⟩) m m]) Tryd.func32 rfl rfl rfl rfl (sl_CloneStr (some ⟨b3, 0, none⟩) m m (List.replicate m zero256) _ (by omega) (RdS.cons (RdS.own tk (fun _ => ⟨b3, rfl⟩) (by simp)))) ?_
  rintro v M ⟨a5, c5, rfl, h5, rfl⟩
  refine go ?_
  refine ⟨rfl, [_, _], ⟨Res.tmp rfl, Res.tmp rfl, trivial⟩, DevH b4 (Dv.new m) :: L, ?_, b4, rfl, by rw [Int.toNat_natCast]⟩
  refine DevH.close (some ⟨b3, 0, none⟩, m, a5, c5, none, 0) (fun _ => ⟨b3, rfl⟩) (by simpa [Dv.new] using h5) (fun h => absurd rfl h) ?_
  simp only [dvL, Dv.new, List.length_replicate, List.cons_append, List.nil_append]
  refine Ent.take tk (Ent.take tk (Ent.take tk ?_))
  exact Ent.ownNil ent
theorem dv_NewBad (n : Int) (L : List HP) (h : n < 1 ∨ 4096 < n) :
    TriE Tryd.prog 16 #[.int .i64 n] (fun v M => v = .tuple #[.pointer none, .int .i64 2] ∧ M = L) L := by
  refine Tri.of (N := 29) (args := [.int .i64 n]) Tryd.func16 rfl rfl rfl ?_
  by_cases h1 : n < 1
  · refine go ?_
    exact ⟨rfl, [_, _], ⟨Res.tmp rfl, Res.tmp rfl, trivial⟩, _, ent, rfl, rfl⟩
  · refine go ?_
    exact ⟨rfl, [_, _], ⟨Res.tmp rfl, Res.tmp rfl, trivial⟩, _, ent, rfl, rfl⟩
end Go.SL

/- Layer 7: a device: what its functions do, each walked once (2). -/
namespace Go.SL
open Go.Proofs
set_option linter.unusedVariables false
set_option maxRecDepth 10000
attribute [local irreducible] W WO SV OW SW Tri Ent Tk Has Src SrcK DA DB RdS Own

@[simp] theorem Dv.call_kept (d : Dv) (may : Bool) : (d.call may).1.kept = d.kept := by unfold Dv.call; split; rfl; split <;> rfl
@[simp] theorem Dv.call_now (d : Dv) (may : Bool) : (d.call may).1.now = d.now := by unfold Dv.call; split; rfl; split <;> rfl
@[simp] theorem Dv.call_waits (d : Dv) (may : Bool) : (d.call may).1.waits = d.waits := by unfold Dv.call; split; rfl; split <;> rfl
theorem Dv.call_err (d : Dv) (may : Bool) : (d.call may).2 = 0 ∨ (d.call may).2 = 1 ∨ (d.call may).2 = 2 ∨ (d.call may).2 = 17 := by
  unfold Dv.call; split; exact .inr (.inl rfl); split; exact .inr (.inr (.inl rfl)); dsimp only; split; exact .inr (.inr (.inr rfl)); exact .inl rfl
theorem Dv.call_zero {d : Dv} {may : Bool} (h : (d.call may).2 = 0) : d.kept.length ≠ 0 ∧ may = true := by
  unfold Dv.call at h
  split at h
  · cases h
  · split at h
    · cases h
    · rename_i h1 h2; exact ⟨h1, by simpa using h2⟩

/-- What a Read answers. -/
def Dv.read (d : Dv) (n : Int) : Dv × Int := d.call (d.is n)
def Dv.put (d : Dv) (n : Int) (s : Byt) : Dv × Int :=
  if (d.call (d.is n && decide (s.length = 256))).2 = 0 then ({ (d.call (d.is n && decide (s.length = 256))).1 with now := d.now.set n.toNat s, waits := d.waits ++ [(n.toNat, s)] }, 0) else d.call (d.is n && decide (s.length = 256))
def Dv.flush (d : Dv) : Dv × Int :=
  if (d.call true).2 = 0 then ({ (d.call true).1 with kept := flushN d.kept d.waits d.waits.length, waits := [] }, 0) else d.call true
def keepN (ks : List Int) (i : Nat) : Nat := (max 0 (min (ks.getD i 0) 256)).toNat
def fallN (kept : List Byt) (waits : List (Nat × Byt)) (ks : List Int) : Nat → List Byt
  | 0 => kept
  | i + 1 => (fallN kept waits ks i).set (waits.getD i (0, [])).1 ((waits.getD i (0, [])).2.take (keepN ks i) ++ ((fallN kept waits ks i).getD (waits.getD i (0, [])).1 []).drop (keepN ks i))
def Dv.fall (d : Dv) (ks : List Int) : Dv :=
  if d.kept.length = 0 then d else ⟨fallN d.kept d.waits ks d.waits.length, fallN d.kept d.waits ks d.waits.length, [], -1, false, d.ops⟩
theorem flushN_len (kept : List Byt) (waits : List (Nat × Byt)) : ∀ i, (flushN kept waits i).length = kept.length
  | 0 => rfl
  | i + 1 => by rw [flushN, List.length_set, flushN_len kept waits i]
theorem fallN_len (kept : List Byt) (waits : List (Nat × Byt)) (ks : List Int) : ∀ i, (fallN kept waits ks i).length = kept.length
  | 0 => rfl
  | i + 1 => by rw [fallN, List.length_set, fallN_len kept waits ks i]
theorem keepN_le (ks : List Int) (i : Nat) : keepN ks i ≤ 256 := by unfold keepN; omega
theorem getD_mem {α : Type} {l : List α} {i : Nat} {x : α} (h : i < l.length) : l.getD i x ∈ l := by
  rw [List.getD_eq_getElem?_getD, List.getElem?_eq_getElem h]; exact List.getElem_mem h
theorem flushN_256 {kept : List Byt} {waits : List (Nat × Byt)} (hk : ∀ s ∈ kept, s.length = 256) (hw : ∀ w ∈ waits, w.2.length = 256) : ∀ i, i ≤ waits.length → ∀ s ∈ flushN kept waits i, s.length = 256
  | 0, _, s, h => hk s h
  | i + 1, hi, s, h => by
    rcases List.mem_or_eq_of_mem_set h with h | h
    · exact flushN_256 hk hw i (by omega) s h
    · rw [h]; exact hw _ (getD_mem (by omega))
theorem fallN_256 {kept : List Byt} {waits : List (Nat × Byt)} {ks : List Int} (hk : ∀ s ∈ kept, s.length = 256) (hw : ∀ w ∈ waits, w.1 < kept.length ∧ w.2.length = 256) : ∀ i, i ≤ waits.length → ∀ s ∈ fallN kept waits ks i, s.length = 256
  | 0, _, s, h => hk s h
  | i + 1, hi, s, h => by
    rcases List.mem_or_eq_of_mem_set h with h | h
    · exact fallN_256 hk hw i (by omega) s h
    · have h1 := hw _ (getD_mem (l := waits) (i := i) (x := (0, [])) (by omega))
      have h2 := fallN_256 hk hw (ks := ks) i (by omega) _ (getD_mem (l := fallN kept waits ks i) (i := (waits.getD i (0, [])).1) (x := []) (by rw [fallN_len]; exact h1.1))
      have := keepN_le ks i
      rw [h, List.length_append, List.length_take, List.length_drop, h1.2, h2]; omega
theorem flushN_app (kept : List Byt) (ws : List (Nat × Byt)) (w : Nat × Byt) : ∀ i, i ≤ ws.length → flushN kept (ws ++ [w]) i = flushN kept ws i
  | 0, _ => rfl
  | i + 1, h => by
    rw [flushN, flushN, flushN_app kept ws w i (by omega)]
    have : (ws ++ [w]).getD i (0, []) = ws.getD i (0, []) := by
      rw [List.getD_eq_getElem?_getD, List.getD_eq_getElem?_getD, List.getElem?_append_left (by omega)]
    rw [this]
theorem flushN_snoc (kept : List Byt) (ws : List (Nat × Byt)) (w : Nat × Byt) : flushN kept (ws ++ [w]) (ws.length + 1) = (flushN kept ws ws.length).set w.1 w.2 := by
  rw [flushN, flushN_app _ _ _ _ (Nat.le_refl _)]
  have : (ws ++ [w]).getD ws.length (0, []) = w := by
    rw [List.getD_eq_getElem?_getD, List.getElem?_append_right (Nat.le_refl _)]; simp
  rw [this]
theorem Dv.put_ok {d : Dv} (ok : d.Ok) (n : Int) (s : Byt) : (d.put n s).1.Ok := by
  have h := Dv.call_ok ok (d.is n && decide (s.length = 256))
  unfold Dv.put
  split
  · rename_i h0
    have hm := (Dv.call_zero h0).2
    simp only [Bool.and_eq_true, decide_eq_true_eq, Dv.is] at hm
    refine ⟨?_, by simpa using ok.size, by simpa using ok.k256, ?_, ?_, h.arm, ?_⟩
    · simp only [List.length_set, Dv.call_kept]; exact ok.now
    · intro t ht
      rcases List.mem_or_eq_of_mem_set ht with q | q
      · exact ok.n256 _ q
      · rw [q]; exact hm.2
    · intro w hw
      simp only [Dv.call_kept]
      rcases List.mem_append.1 hw with q | q
      · exact ok.w256 _ q
      · rw [List.mem_singleton] at q
        subst q
        exact ⟨by dsimp only; omega, hm.2⟩
    · simp only [Dv.call_kept, List.length_append, List.length_singleton]
      rw [flushN_snoc, ok.sync]
  · exact h
theorem Dv.flush_ok {d : Dv} (ok : d.Ok) : d.flush.1.Ok := by
  have h := Dv.call_ok ok true
  unfold Dv.flush
  split
  · exact ⟨by simp only [flushN_len, Dv.call_now]; exact ok.now, by simp only [flushN_len]; exact ok.size, flushN_256 ok.k256 (fun w hw => (ok.w256 w hw).2) _ (Nat.le_refl _), by simpa using ok.n256, fun w hw => (by cases hw), h.arm, by simp only [List.length_nil, flushN, Dv.call_now]; exact ok.sync⟩
  · exact h
theorem Dv.fall_ok {d : Dv} (ok : d.Ok) (ks : List Int) : (d.fall ks).Ok := by
  unfold Dv.fall
  split
  · exact ok
  · exact ⟨rfl, by simp only [fallN_len]; exact ok.size, fallN_256 ok.k256 ok.w256 _ (Nat.le_refl _), fallN_256 ok.k256 ok.w256 _ (Nat.le_refl _), fun w hw => (by cases hw), by simp, rfl⟩

theorem mem256 {l : List Byt} (h : ∀ s ∈ l, s.length = 256) {i : Nat} (hi : i < l.length) : (l.getD i []).length = 256 := h _ (getD_mem hi)
theorem getstr {l : List Byt} {i : Nat} (hi : i < l.length) : (l.map strV)[i]? = some (strV (l.getD i [])) := by simp [hi]
theorem dv_Read (b : Nat) (d : Dv) (n : Int) (R : List HP) (ok : d.Ok) :
    TriE Tryd.prog 44 #[.pointer (some ⟨b, 0, none⟩), .int .i64 n]
      (fun v M => ((d.read n).2 ≠ 0 ∧ v = .tuple #[.slice none 0 0, .int .i64 (d.read n).2] ∧ M = DevH b (d.read n).1 :: R) ∨
        ((d.read n).2 = 0 ∧ ∃ a c, v = .tuple #[.slice a 256 c, .int .i64 0] ∧ SomeA a 256 ∧ M = OS a c (d.now.getD n.toNat []) :: DevH b (d.read n).1 :: R)) (DevH b d :: R) := by
  refine DevH.opens fun x h1 h2 h3 => ?_
  have hc := DevH.close (b := b) (d := (d.read n).1) (R := R) x (by simpa [Dv.read] using h1) (by simpa [Dv.read] using h2) (by simpa [Dv.read] using h3) (Ent.refl _)
  have hcall := dv_call b x d (d.is n) R ok.arm
  obtain ⟨ka, kc, na, nc, wa, wc⟩ := x
  unfold Dv.read at hc ⊢
  generalize hdc : d.call (d.is n) = dc at hcall hc ⊢
  have k1 : dc.1.kept = d.kept := by rw [← hdc]; simp
  have k2 : dc.1.now = d.now := by rw [← hdc]; simp
  have k3 : dc.1.waits = d.waits := by rw [← hdc]; simp
  have hz : dc.2 = 0 → d.kept.length ≠ 0 ∧ d.is n = true := fun h => Dv.call_zero (by rw [hdc]; exact h)
  simp only [dvL, List.cons_append, List.nil_append, k1, k2, k3] at hcall hc ⊢
  refine Tri.of (N := 27) (args := [.pointer (some ⟨b, 0, none⟩), .int .i64 n]) Tryd.func44 rfl rfl rfl ?_
  refine go ?_
  refine WO.callE (vs := [.pointer (some ⟨b, 0, none⟩), .int .i64 n]) Tryd.func34 rfl rfl rfl rfl (dv_is b _ _ n _ _ _ _ _ _ _ (RdS.all rfl)) ?_
  rintro v M ⟨rfl, rfl⟩
  rw [show (decide (0 ≤ n) && decide (n < d.kept.length)) = d.is n from rfl]
  refine WO.callE (vs := [.pointer (some ⟨b, 0, none⟩), .bool (d.is n)]) Tryd.func33 rfl rfl rfl rfl hcall ?_
  rintro v M ⟨rfl, rfl⟩
  by_cases he : dc.2 = 0
  · rw [he]
    obtain ⟨hk, his⟩ := hz he
    have hn : 0 ≤ n ∧ n < d.kept.length := by simpa [Dv.is] using his
    have hnow := ok.now
    have hsz := ok.size
    have h256 := mem256 ok.n256 (i := n.toNat) (by omega)
    obtain ⟨nb, rfl⟩ := h2 (by omega)
    have hget := getstr (l := d.now) (i := n.toNat) (by omega)
    generalize d.now.getD n.toNat [] = s at h256 hget ⊢
    refine go ?_
    refine WO.sv rfl ?_
    refine SV.makeSlice rfl (m := 256) rfl (by decide) (by decide) ?_
    intro b1
    refine go ?_
    refine WO.sv rfl ?_
    refine SV.loadR n.toNat rfl (RdS.own tk h2 (by simp)) (by omega) hget ?_
    refine WO.sv rfl ?_
    refine SV.copyP rfl rfl SrcK.str (by simp [u8V, isCell]) (by simp) (.inl (Nat.le_refl _)) (l' := s.map u8V) ?_ (by simp [h256]) rfl ?_
    · rw [h256, Nat.min_self, Nat.mul_one, List.take_of_length_le (by simp [h256]), List.length_map, h256, List.drop_of_length_le (by simp), List.append_nil]
    refine go ?_
    refine ⟨rfl, [_, _], ⟨Res.tmp rfl, Res.tmp rfl, trivial⟩, OS (some ⟨b1, 0, none⟩) 256 s :: DevH b dc.1 :: R, ?_, .inr ⟨rfl, some ⟨b1, 0, none⟩, 256, rfl, fun _ => ⟨b1, rfl⟩, rfl⟩⟩
    refine Ent.trans (ent_own (E := 5) (sz := 1) (n := 256) (by simp [h256])) ?_
    unfold OS
    rw [h256]
    exact Ent.take tk hc
  · refine go ?_
    exact ⟨rfl, [_, _], ⟨Res.tmp rfl, Res.tmp rfl, trivial⟩, _, hc, .inl ⟨he, rfl, rfl⟩⟩
end Go.SL

/- Layer 7: a device: Write, Flush, Fall, Clone, each walked once. -/
namespace Go.SL
open Go.Proofs
set_option linter.unusedVariables false
set_option maxRecDepth 10000
attribute [local irreducible] W WO SV OW SW Tri Ent Tk Has Src SrcK DA DB RdS Own

theorem dv_Write (b : Nat) (d : Dv) (n : Int) (a : Option Addr) (c : Nat) (s : Byt) (R : List HP) (ok : d.Ok) (hls : s.length ≤ 9223372036854775807) (hw : d.waits.length ≤ 1000000) (r : RdS 1 a s.length (s.map u8V) R) :
    TriE Tryd.prog 17 #[.pointer (some ⟨b, 0, none⟩), .int .i64 n, .slice a s.length c] (fun v M => v = .int .i64 (d.put n s).2 ∧ M = DevH b (d.put n s).1 :: R) (DevH b d :: R) := by
  refine DevH.opens fun x h1 h2 h3 => ?_
  have hcall := dv_call b x d (d.is n && decide (s.length = 256)) R ok.arm
  have hc := DevH.close (b := b) (d := (d.call (d.is n && decide (s.length = 256))).1) (R := R) x (by simpa using h1) (by simpa using h2) (by simpa using h3) (Ent.refl _)
  obtain ⟨ka, kc, na, nc, wa, wc⟩ := x
  unfold Dv.put
  generalize hdc : d.call (d.is n && decide (s.length = 256)) = dc at hcall hc ⊢
  have k1 : dc.1.kept = d.kept := by rw [← hdc]; simp
  have k2 : dc.1.now = d.now := by rw [← hdc]; simp
  have k3 : dc.1.waits = d.waits := by rw [← hdc]; simp
  have hz : dc.2 = 0 → d.kept.length ≠ 0 ∧ (d.is n && decide (s.length = 256)) = true := fun h => Dv.call_zero (by rw [hdc]; exact h)
  simp only [dvL, List.cons_append, List.nil_append, k1, k2, k3] at hcall hc ⊢
  refine Tri.of (N := 47) (args := [.pointer (some ⟨b, 0, none⟩), .int .i64 n, .slice a s.length c]) Tryd.func17 rfl rfl rfl ?_
  refine go ?_
  refine WO.callE (vs := [.pointer (some ⟨b, 0, none⟩), .int .i64 n]) Tryd.func34 rfl rfl rfl rfl (dv_is b _ _ n _ _ _ _ _ _ _ (RdS.all rfl)) ?_
  rintro v M ⟨rfl, rfl⟩
  rw [show (decide (0 ≤ n) && decide (n < d.kept.length)) = d.is n from rfl]
  cases his : d.is n with
  | false =>
    rw [his, Bool.false_and] at hcall
    have he : dc.2 ≠ 0 := fun h => by have := (hz h).2; rw [his] at this; cases this
    rw [if_neg he]
    refine go ?_
    refine WO.callE (vs := [.pointer (some ⟨b, 0, none⟩), .bool false]) Tryd.func33 rfl rfl rfl rfl hcall ?_
    rintro v M ⟨rfl, rfl⟩
    refine go ?_
    exact ⟨rfl, [_], ⟨Res.tmp rfl, trivial⟩, _, hc, rfl, rfl⟩
  | true =>
    by_cases hs : s.length = 256
    · rw [his, decide_eq_true hs, Bool.true_and] at hcall
      refine go ?_
      refine WO.callE (vs := [.pointer (some ⟨b, 0, none⟩), .bool true]) Tryd.func33 rfl rfl rfl rfl hcall ?_
      rintro v M ⟨rfl, rfl⟩
      by_cases he : dc.2 = 0
      · rw [if_pos he]
        obtain ⟨hk, _⟩ := hz he
        have hn : 0 ≤ n ∧ n < d.kept.length := by simpa [Dv.is] using his
        have hnow := ok.now
        have hsz := ok.size
        obtain ⟨nb, rfl⟩ := h2 (by omega)
        refine go ?_
        refine W.drawA rfl (by kernel_rfl) (by kernel_rfl) ?_
        refine go ?_
        refine DA.q (v := strV s) rfl rfl (SV.toStrR rfl (RdS.cons (RdS.cons (RdS.cons (RdS.cons r)))) eqq) ?_
        refine go ?_
        refine DA.v rfl rfl rfl ?_
        refine SV.storeO n.toNat (v := strV s) (xs' := (d.now.set n.toNat s).map strV) rfl tk (by omega) rfl rfl (by simp; omega) (by rw [List.map_set]) ?_
        refine go ?_
        have hget : ((d.now.set n.toNat s).map strV)[n.toNat]? = some (strV s) := by
          rw [List.getElem?_map, List.getElem?_set]; simp; omega
        have hlw : (d.waits.flatMap wrV).length = d.waits.length * 2 := flat_len (n := 2) (fun _ => rfl) _
        refine W.drawC 18 #[0, 0, 2, 6, 14, 0, 0, 64, 192, 448, 0, 1984, 4032, 8160, 16352, 32766, 65535, 131071, 262143]
          [pts b (.cells [Value.slice ka d.kept.length kc, Value.slice (some ⟨nb, 0, none⟩) d.now.length nc, Value.slice wa d.waits.length wc, .int .i64 dc.1.arm, .bool dc.1.down, .int .i64 dc.1.ops].toArray 76), Own 9 1 (.slice (some ⟨nb, 0, none⟩) d.now.length nc) d.now.length ((d.now.set n.toNat s).map strV)]
          (Own 9 1 (.slice ka d.kept.length kc) d.kept.length (d.kept.map strV) :: Own 80 2 (.slice wa d.waits.length wc) d.waits.length (d.waits.flatMap wrV) :: R) rfl (by kernel_rfl) (by kernel_rfl) (by kernel_rfl) (by kernel_rfl) rfl rfl rfl ent ?_
        refine go ?_
        refine DB.q (v := strV s) rfl rfl hl ?_ ?_
        · refine SV.loadR n.toNat rfl (RdS.own (Tk.there Tk.here) h2 (by simp)) (by omega) hget ?_
          exact eqq
        refine go ?_
        refine DB.lit rfl rfl rfl parts rfl nl rfl rfl ?_
        intro b2
        refine DB.v rfl rfl rfl hl hl ?_
        refine SV.append rfl rfl rfl tk (RdS.src (RdS.all (sz := 2) (n := 1) rfl)) rfl rfl (by omega) rfl ?_
        intro wa' wc' hwa'
        refine ⟨[], Own 80 2 (.slice wa' (d.waits.length + 1) wc') (d.waits.length + 1) (d.waits.flatMap wrV ++ [Value.int .i64 n, strV s]) :: Own 9 1 (.slice ka d.kept.length kc) d.kept.length (d.kept.map strV) :: R, ent, ?_⟩
        refine go ?_
        refine ⟨pts b (.cells [Value.slice ka d.kept.length kc, Value.slice (some ⟨nb, 0, none⟩) d.now.length nc, Value.slice wa d.waits.length wc, .int .i64 dc.1.arm, .bool dc.1.down, .int .i64 dc.1.ops].toArray 76) :: Own 9 1 (.slice (some ⟨nb, 0, none⟩) d.now.length nc) d.now.length ((d.now.set n.toNat s).map strV) ::
          Own 80 2 (.slice wa' (d.waits.length + 1) wc') (d.waits.length + 1) (d.waits.flatMap wrV ++ [Value.int .i64 n, strV s]) :: Own 9 1 (.slice ka d.kept.length kc) d.kept.length (d.kept.map strV) :: R, ent, OW.sv ?_⟩
        refine SV.store rfl rfl cel rfl rfl rfl frz le0 nl ?_
        refine ⟨_, Ent.refl _, ?_⟩
        refine go ?_
        refine ⟨rfl, [_], ⟨Res.tmp rfl, trivial⟩, DevH b ⟨d.kept, d.now.set n.toNat s, d.waits ++ [(n.toNat, s)], dc.1.arm, dc.1.down, dc.1.ops⟩ :: R, ?_, ?_, rfl⟩
        · refine DevH.close (ka, kc, some ⟨nb, 0, none⟩, nc, wa', wc') h1 (fun _ => ⟨nb, rfl⟩) (fun _ => hwa' (by omega)) ?_
          have e1 : (d.waits ++ [(n.toNat, s)]).flatMap wrV = d.waits.flatMap wrV ++ [Value.int .i64 n, strV s] := by
            rw [List.flatMap_append]; simp [wrV, Int.toNat_of_nonneg hn.1]
          simp only [dvL, List.length_set, List.length_append, List.length_singleton, e1, List.cons_append, List.nil_append]
          exact ent
        · rw [he]; rfl
      · rw [if_neg he]
        refine go ?_
        exact ⟨rfl, [_], ⟨Res.tmp rfl, trivial⟩, _, hc, rfl, rfl⟩
    · rw [his, decide_eq_false hs, Bool.true_and] at hcall
      have he : dc.2 ≠ 0 := fun h => by have := (hz h).2; rw [his, decide_eq_false hs] at this; cases this
      rw [if_neg he]
      refine go ?_
      refine WO.callE (vs := [.pointer (some ⟨b, 0, none⟩), .bool false]) Tryd.func33 rfl rfl rfl rfl hcall ?_
      rintro v M ⟨rfl, rfl⟩
      refine go ?_
      exact ⟨rfl, [_], ⟨Res.tmp rfl, trivial⟩, _, hc, rfl, rfl⟩

theorem dv_Flush (b : Nat) (d : Dv) (R : List HP) (ok : d.Ok) (hw : d.waits.length ≤ 1000000000) :
    TriE Tryd.prog 39 #[.pointer (some ⟨b, 0, none⟩)] (fun v M => v = .int .i64 d.flush.2 ∧ M = DevH b d.flush.1 :: R) (DevH b d :: R) := by
  refine DevH.opens fun x h1 h2 h3 => ?_
  have hcall := dv_call b x d true R ok.arm
  have hc := DevH.close (b := b) (d := (d.call true).1) (R := R) x (by simpa using h1) (by simpa using h2) (by simpa using h3) (Ent.refl _)
  obtain ⟨ka, kc, na, nc, wa, wc⟩ := x
  unfold Dv.flush
  generalize hdc : d.call true = dc at hcall hc ⊢
  have k1 : dc.1.kept = d.kept := by rw [← hdc]; simp
  have k2 : dc.1.now = d.now := by rw [← hdc]; simp
  have k3 : dc.1.waits = d.waits := by rw [← hdc]; simp
  simp only [dvL, List.cons_append, List.nil_append, k1, k2, k3] at hcall hc ⊢
  refine Tri.of (N := 33) (args := [.pointer (some ⟨b, 0, none⟩)]) Tryd.func39 rfl rfl rfl ?_
  refine go ?_
  refine WO.callE (vs := [.pointer (some ⟨b, 0, none⟩), .bool true]) Tryd.func33 rfl rfl rfl rfl hcall ?_
  rintro v M ⟨rfl, rfl⟩
  by_cases he : dc.2 = 0
  · rw [if_pos he, he]
    refine go ?_
    have hlw : (d.waits.flatMap wrV).length = d.waits.length * 2 := flat_len (n := 2) (fun _ => rfl) _
    have hlk := flushN_len d.kept d.waits
    refine W.loopS 536838176 rfl (fun i : Nat => [(15, .int .i64 i)])
      (fun i => pts b (.cells [Value.slice ka d.kept.length kc, Value.slice na d.now.length nc, Value.slice wa d.waits.length wc, .int .i64 dc.1.arm, .bool dc.1.down, .int .i64 dc.1.ops].toArray 76) :: Own 9 1 (.slice ka d.kept.length kc) d.kept.length ((flushN d.kept d.waits i).map strV) ::
        Own 9 1 (.slice na d.now.length nc) d.now.length (d.now.map strV) :: Own 80 2 (.slice wa d.waits.length wc) d.waits.length (d.waits.flatMap wrV) :: R) (fun i => i ≤ d.waits.length) (fun i => d.waits.length - i) 0 ⟨rfl, trivial⟩ (Nat.zero_le _) (Ent.app (Ent.refl _)) ?_
    intro i bg hi
    refine go ?_
    refine WO.sv rfl ?_
    refine SV.lssC rfl rfl ?_ ?_
    · intro hlt
      have hi' : i < d.waits.length := by omega
      obtain ⟨wb, rfl⟩ := h3 (by omega)
      have hsub := flat_sub (g := wrV) (n := 2) (fun _ => rfl) d.waits i hi'
      have hwi := ok.w256 _ (List.getElem_mem hi')
      have hgd : d.waits.getD i (0, []) = d.waits[i] := by simp [hi']
      have hfl : flushN d.kept d.waits (i + 1) = (flushN d.kept d.waits i).set d.waits[i].1 d.waits[i].2 := by rw [flushN, hgd]
      generalize d.waits[i] = w at hsub hwi hgd hfl
      obtain ⟨wn, ws⟩ := w
      dsimp only at hwi hfl
      obtain ⟨kb, rfl⟩ := h1 (by omega)
      refine go ?_
      refine WO.sv rfl ?_
      refine SV.loadRN (i * 2) rfl (RdS.own tk h3 hlw) (by simp) (by decide) (by omega) hsub ?_
      refine go ?_
      intro b5
      refine go ?_
      refine W.drawA rfl (by kernel_rfl) (by kernel_rfl) ?_
      refine go ?_
      refine DA.v rfl rfl rfl ?_
      refine SV.storeO wn (v := strV ws) (xs' := (flushN d.kept d.waits (i + 1)).map strV) rfl tk (by omega) rfl rfl (by simp [hlk]; omega) (by rw [hfl, List.map_set]) ?_
      refine go ?_
      exact ⟨i + 1, ⟨rfl, trivial⟩, rfl, by omega, by omega, Ent.app ent⟩
    · intro hlt
      obtain rfl : i = d.waits.length := by omega
      refine go ?_
      refine ⟨rfl, [_], ⟨Res.tmp rfl, trivial⟩, DevH b ⟨flushN d.kept d.waits d.waits.length, d.now, [], dc.1.arm, dc.1.down, dc.1.ops⟩ :: R, ?_, rfl, rfl⟩
      refine DevH.close (ka, kc, na, nc, none, 0) (by rw [hlk]; exact h1) h2 (fun h => absurd rfl h) ?_
      simp only [dvL, hlk, List.cons_append, List.nil_append]
      exact Ent.take tk (Ent.take tk (Ent.take tk (Ent.ownNil ent)))
  · rw [if_neg he]
    refine go ?_
    exact ⟨rfl, [_], ⟨Res.tmp rfl, trivial⟩, _, hc, rfl, rfl⟩
end Go.SL

/- Layer 7: a device: Fall, Clone, each walked once. -/
namespace Go.SL
open Go.Proofs
set_option linter.unusedVariables false
set_option maxRecDepth 10000
attribute [local irreducible] W WO SV OW SW Tri Ent Tk Has Src SrcK DA DB RdS Own

theorem fallN_succ {kept : List Byt} {waits : List (Nat × Byt)} {ks : List Int} {i wn : Nat} {ws : Byt} (h : waits.getD i (0, []) = (wn, ws)) :
    fallN kept waits ks (i + 1) = (fallN kept waits ks i).set wn (ws.take (keepN ks i) ++ ((fallN kept waits ks i).getD wn []).drop (keepN ks i)) := by rw [fallN, h]
end Go.SL

/- Layer 7: a device: Clone; devices that nobody made; the law's own functions. -/
namespace Go.SL
open Go.Proofs
set_option linter.unusedVariables false
set_option maxRecDepth 10000
attribute [local irreducible] W WO SV OW SW Tri Ent Tk Has Src SrcK DA DB RdS Own

/-! a device that nobody made -/
theorem dv_Read0 (n : Int) (R : List HP) : TriE Tryd.prog 44 #[.pointer none, .int .i64 n] (fun v M => v = .tuple #[.slice none 0 0, .int .i64 1] ∧ M = R) R := by
  refine Tri.of (N := 27) (args := [.pointer none, .int .i64 n]) Tryd.func44 rfl rfl rfl ?_
  refine go ?_
  refine WO.callE (vs := [.pointer none, .int .i64 n]) Tryd.func34 rfl rfl rfl rfl (dv_is0 n _) ?_
  rintro v M ⟨rfl, rfl⟩
  refine go ?_
  refine WO.callE (vs := [.pointer none, .bool false]) Tryd.func33 rfl rfl rfl rfl (dv_call0 false _) ?_
  rintro v M ⟨rfl, rfl⟩
  refine go ?_
  exact ⟨rfl, [_, _], ⟨Res.tmp rfl, Res.tmp rfl, trivial⟩, _, ent, rfl, rfl⟩
theorem dv_Write0 (n : Int) (x : Value) (R : List HP) : TriE Tryd.prog 17 #[.pointer none, .int .i64 n, x] (fun v M => v = .int .i64 1 ∧ M = R) R := by
  refine Tri.of (N := 47) (args := [.pointer none, .int .i64 n, x]) Tryd.func17 rfl rfl rfl ?_
  refine go ?_
  refine WO.callE (vs := [.pointer none, .int .i64 n]) Tryd.func34 rfl rfl rfl rfl (dv_is0 n _) ?_
  rintro v M ⟨rfl, rfl⟩
  refine go ?_
  refine WO.callE (vs := [.pointer none, .bool false]) Tryd.func33 rfl rfl rfl rfl (dv_call0 false _) ?_
  rintro v M ⟨rfl, rfl⟩
  refine go ?_
  exact ⟨rfl, [_], ⟨Res.tmp rfl, trivial⟩, _, ent, rfl, rfl⟩
theorem dv_Flush0 (R : List HP) : TriE Tryd.prog 39 #[.pointer none] (fun v M => v = .int .i64 1 ∧ M = R) R := by
  refine Tri.of (N := 33) (args := [.pointer none]) Tryd.func39 rfl rfl rfl ?_
  refine go ?_
  refine WO.callE (vs := [.pointer none, .bool true]) Tryd.func33 rfl rfl rfl rfl (dv_call0 true _) ?_
  rintro v M ⟨rfl, rfl⟩
  refine go ?_
  exact ⟨rfl, [_], ⟨Res.tmp rfl, trivial⟩, _, ent, rfl, rfl⟩

/-! a block all bytes of which are one -/
theorem list_fill {c : Value} (k m : Nat) (z : Value) (h : k < m) : (List.replicate k c ++ List.replicate (m - k) z).set k c = List.replicate (k + 1) c ++ List.replicate (m - (k + 1)) z := by
  rw [List.set_append_right _ _ (by simp), List.length_replicate, Nat.sub_self]
  obtain ⟨j, rfl⟩ : ∃ j, m = k + 1 + j := ⟨m - (k + 1), by omega⟩
  rw [show k + 1 + j - k = j + 1 by omega, show k + 1 + j - (k + 1) = j by omega, List.replicate_succ, List.set_cons_zero, List.replicate_succ', List.append_assoc]; rfl
end Go.SL

/- Layer 7: the law DevNobody, walked. -/
namespace Go.SL
open Go.Proofs
set_option linter.unusedVariables false
set_option maxRecDepth 10000
attribute [local irreducible] W WO SV OW SW Tri Ent Tk Has Src SrcK DA DB RdS Own

def rep (c : UInt8) : Byt := List.replicate 256 c
theorem rep_len (c : UInt8) : (rep c).length = 256 := List.length_replicate
def o1 : Dv := ((Dv.new 2).put 0 (rep 1)).1
def o2 : Dv := o1.flush.1
def o3 : Dv := (o2.put 0 (rep 2)).1
def o4 : Dv := (o3.put 1 (rep 3)).1
def o5 : Dv := o4.fall [1]
theorem o_ok : o1.Ok ∧ o2.Ok ∧ o3.Ok ∧ o4.Ok ∧ o5.Ok := by
  have h1 : o1.Ok := Dv.put_ok (Dv.new_ok (by decide)) _ _
  have h2 : o2.Ok := Dv.flush_ok h1
  have h3 : o3.Ok := Dv.put_ok h2 _ _
  have h4 : o4.Ok := Dv.put_ok h3 _ _
  exact ⟨h1, h2, h3, h4, Dv.fall_ok h4 _⟩
theorem o_w : (Dv.new 2).waits.length ≤ 1000000 ∧ o1.waits.length ≤ 1000000 ∧ o2.waits.length ≤ 1000000 ∧ o3.waits.length ≤ 1000000 ∧ o4.waits.length ≤ 1000000 := by
  refine ⟨?_, ?_, ?_, ?_, ?_⟩ <;> decide +kernel
theorem o_r0 : (o5.read 0).2 = 0 := by decide +kernel
theorem o_r1 : ((o5.read 0).1.read 1).2 = 0 := by decide +kernel
theorem o_s0 : ∃ t, o5.now.getD (0 : Int).toNat [] = 2 :: 1 :: t := ⟨List.replicate 254 1, by decide +kernel⟩
theorem o_s1 : ∃ t, (o5.read 0).1.now.getD (1 : Int).toNat [] = 0 :: t := ⟨List.replicate 255 0, by decide +kernel⟩
theorem o_5 : (o5.now.getD (0 : Int).toNat []).length = 256 ∧ ((o5.read 0).1.now.getD (1 : Int).toNat []).length = 256 := by constructor <;> decide +kernel

def Dv.zero : Dv := ⟨[], [], [], 0, false, 0⟩
theorem Dv.zero_ok : Dv.zero.Ok := ⟨rfl, by decide, fun s h => (by cases h), fun s h => (by cases h), fun w h => (by cases h), by decide, rfl⟩
theorem DevH.zero (b : Nat) (L : List HP) : Ent (pts b (.cells [Value.slice none 0 0, Value.slice none 0 0, Value.slice none 0 0, Value.int .i64 0, Value.bool false, Value.int .i64 0].toArray 76) :: L) (DevH b Dv.zero :: L) :=
  DevH.close (none, 0, none, 0, none, 0) (fun h => absurd rfl h) (fun h => absurd rfl h) (fun h => absurd rfl h) (Ent.take tk (Ent.ownNil (Ent.ownNil (Ent.ownNil (Ent.refl _)))))
end Go.SL

/- Layer 7: the law DevNobody, walked. -/
namespace Go.SL
open Go.Proofs
set_option linter.unusedVariables false
set_option maxRecDepth 10000
attribute [local irreducible] W WO SV OW SW Tri Ent Tk Has Src SrcK DA DB RdS Own

theorem dv_LenH (b : Nat) (d : Dv) (R : List HP) : TriE Tryd.prog 35 #[.pointer (some ⟨b, 0, none⟩)] (fun v M => v = .int .i64 d.kept.length ∧ M = DevH b d :: R) (DevH b d :: R) := by
  refine DevH.opens fun x h1 h2 h3 => ?_
  have hc := DevH.close (b := b) (R := R) x h1 h2 h3 (Ent.refl _)
  obtain ⟨ka, kc, na, nc, wa, wc⟩ := x
  simp only [dvL, List.cons_append, List.nil_append] at hc ⊢
  refine Tri.mono (dv_Len b d.kept.length kc ka _ _ _ _ _ _ (RdS.all rfl)) ?_
  rintro v L' ⟨M, e, rfl, rfl⟩
  exact ⟨_, Ent.trans e hc, rfl, rfl⟩

end Go.SL

/- Layer 9: a head is saved, walked. -/
namespace Go.SL
open Go.Proofs
set_option linter.unusedVariables false
set_option maxRecDepth 10000
set_option maxHeartbeats 4000000
attribute [local irreducible] W WO SV OW SW Tri Ent Tk Has Src SrcK DA DB RdS Own DevH

def saveS (d : Dv) (h : Hd) : Dv × Int :=
  if d.kept.length = 0 then (d, 1) else if HdR h d.kept.length then (if (d.put ((h.gen % 2 : Nat) : Int) h.put).2 = 0 then (d.put ((h.gen % 2 : Nat) : Int) h.put).1.flush else d.put ((h.gen % 2 : Nat) : Int) h.put) else (d, 2)
theorem HdR.mono {h : Hd} {b c : Int} (r : HdR h b) (e : b ≤ c) : HdR h c := by unfold HdR at *; omega
theorem put_waits (d : Dv) (n : Int) (s : Byt) : (d.put n s).1.waits.length ≤ d.waits.length + 1 := by
  unfold Dv.put
  split
  · simp
  · unfold Dv.call
    split
    · simp
    · split <;> simp
theorem h9_Save (b : Nat) (d : Dv) (h : Hd) (R : List HP) (ok : d.Ok) (hw : d.waits.length ≤ 100000) (fit : h.Fit) :
    TriE Tryd.prog 18 #[.pointer (some ⟨b, 0, none⟩), .agg h.L.toArray] (fun v M => v = .int .i64 (saveS d h).2 ∧ M = DevH b (saveS d h).1 :: R) (DevH b d :: R) := by
  have hlen := ok.size
  have hRi := fun L => h9_Right h d.kept.length L (by omega)
  have hSl := fun L => h9_slot h L
  have hPu := fun L => h9_Put h L fit
  have hpl : h.put.length = 256 := sealB_len (h.enc_len fit)
  unfold saveS
  obtain ⟨g, e, p, s, l⟩ := h
  generalize hHp : Hd.put ⟨g, e, p, s, l⟩ = hp at *
  refine Tri.of (N := 33) (args := [.pointer (some ⟨b, 0, none⟩), .agg (hdL g e p s l).toArray]) Tryd.func18 rfl rfl rfl ?_
  refine go ?_
  intro b3
  refine go ?_
  refine WO.callE (vs := [.pointer (some ⟨b, 0, none⟩)]) Tryd.func35 rfl rfl rfl rfl (TriE.ent ent (dv_LenH b d (pts b3 (.cells (hdL g e p s l).toArray 46) :: R))) ?_
  rintro v M ⟨rfl, rfl⟩
  by_cases h0 : d.kept.length = 0
  · rw [if_pos h0]
    refine go ?_
    exact ⟨rfl, [_], ⟨Res.tmp rfl, trivial⟩, DevH b d :: R, ent, rfl, rfl⟩
  rw [if_neg h0]
  refine go ?_
  refine W.drawB #[0, 0, 2, 7, 15, 31] [pts b3 (.cells (hdL g e p s l).toArray 46)] (DevH b d :: R) rfl (by kernel_rfl) (by kernel_rfl) (by kernel_rfl) ent ?_
  refine go ?_
  refine DB.callE (vs := [.pointer (some ⟨b, 0, none⟩)]) Tryd.func35 rfl rfl rfl rfl hl hl (TriE.ent ent (dv_LenH b d (pts b3 (.cells (hdL g e p s l).toArray 46) :: R))) ?_
  rintro v M ⟨rfl, rfl⟩
  refine ⟨[], DevH b d :: R, ent, ?_⟩
  refine go ?_
  refine DB.callE (vs := [.agg (hdL g e p s l).toArray, .int .i64 d.kept.length]) Tryd.func36 rfl rfl rfl rfl hl hl (hRi _) ?_
  rintro v M ⟨rfl, rfl⟩
  refine ⟨[], DevH b d :: R, ent, ?_⟩
  by_cases hr : HdR ⟨g, e, p, s, l⟩ d.kept.length
  rotate_left
  · rw [decide_eq_false hr, if_neg hr]
    refine go ?_
    refine ⟨DevH b d :: R, ent, ?_⟩
    refine go ?_
    exact ⟨rfl, [_], ⟨Res.tmp rfl, trivial⟩, DevH b d :: R, ent, rfl, rfl⟩
  rw [decide_eq_true hr, if_pos hr]
  have hr2 := hr.mono (c := 4096) (by omega)
  refine go ?_
  refine ⟨DevH b d :: pts b3 (.cells (hdL g e p s l).toArray 46) :: R, ent, ?_⟩
  refine go ?_
  refine WO.callE (vs := [.agg (hdL g e p s l).toArray]) Tryd.func37 rfl rfl rfl rfl (hPu _) ?_
  rintro v M (⟨h, _⟩ | ⟨_, a5, c5, rfl, s5, rfl⟩)
  · exact absurd hr2 h
  refine go ?_
  refine WO.callE (vs := [.agg (hdL g e p s l).toArray]) Tryd.func38 rfl rfl rfl rfl (hSl _) ?_
  rintro v M ⟨rfl, rfl⟩
  refine go ?_
  refine WO.callE (vs := [.pointer (some ⟨b, 0, none⟩), .int .i64 ((g % 2 : Nat) : Int), .slice a5 hp.length c5]) Tryd.func17 rfl rfl rfl rfl
    (TriE.ent ent (dv_Write b d ((g % 2 : Nat) : Int) a5 c5 hp (OS a5 c5 hp :: pts b3 (.cells (hdL g e p s l).toArray 46) :: R) ok (by omega) (by omega) (OS.rd Tk.here s5))) ?_
  rintro v M ⟨rfl, rfl⟩
  have hpw := put_waits d ((g % 2 : Nat) : Int) hp
  have hpo := Dv.put_ok ok ((g % 2 : Nat) : Int) hp
  dsimp only
  generalize d.put ((g % 2 : Nat) : Int) hp = w at *
  by_cases hz : w.2 = 0
  rotate_left
  · rw [if_neg hz]
    refine go ?_
    exact ⟨rfl, [_], ⟨Res.tmp rfl, trivial⟩, DevH b w.1 :: R, ent, rfl, rfl⟩
  rw [if_pos hz]
  refine go ?_
  refine WO.callE (vs := [.pointer (some ⟨b, 0, none⟩)]) Tryd.func39 rfl rfl rfl rfl (dv_Flush b w.1 _ hpo (by omega)) ?_
  rintro v M ⟨rfl, rfl⟩
  refine go ?_
  exact ⟨rfl, [_], ⟨Res.tmp rfl, trivial⟩, DevH b w.1.flush.1 :: R, ent, rfl, rfl⟩
end Go.SL

/- Layer 9: a head is loaded, walked. -/
namespace Go.SL
open Go.Proofs
set_option linter.unusedVariables false
set_option maxRecDepth 10000
set_option maxHeartbeats 4000000
attribute [local irreducible] W WO SV OW SW Tri Ent Tk Has Src SrcK DA DB RdS Own DevH

/-- The greater head, of a block that may be one. -/
def pickH (last : Hd) (s : Byt) (n : Nat) (len : Int) : Hd := if hdOk s len = true ∧ (hdOf s len).gen % 2 = n ∧ last.gen < (hdOf s len).gen then hdOf s len else last
def loadN (d : Dv) : Nat → Dv × Hd × Int
  | 0 => (d, Hd.zero, 0)
  | n + 1 => if (loadN d n).2.2 ≠ 0 then loadN d n else if ((loadN d n).1.read n).2 ≠ 0 then (((loadN d n).1.read n).1, Hd.zero, ((loadN d n).1.read n).2) else
      (((loadN d n).1.read n).1, pickH (loadN d n).2.1 ((loadN d n).1.now.getD n []) n d.kept.length, 0)
def loadS (d : Dv) : Dv × Hd × Int :=
  if d.kept.length = 0 then (d, Hd.zero, 1) else
    if (loadN d (min 2 d.kept.length)).2.2 ≠ 0 then loadN d (min 2 d.kept.length)
    else if (loadN d (min 2 d.kept.length)).2.1.gen = 0 then ((loadN d (min 2 d.kept.length)).1, Hd.zero, 13) else loadN d (min 2 d.kept.length)
theorem read_kept (d : Dv) (n : Int) : (d.read n).1.kept = d.kept ∧ (d.read n).1.now = d.now ∧ (d.read n).1.waits = d.waits := by
  unfold Dv.read Dv.call
  split
  · exact ⟨rfl, rfl, rfl⟩
  · split <;> exact ⟨rfl, rfl, rfl⟩
theorem pickH_ok {last : Hd} {s : Byt} {n : Nat} {len : Int} (h : last = Hd.zero ∨ 1 ≤ last.gen) : pickH last s n len = Hd.zero ∨ 1 ≤ (pickH last s n len).gen := by
  unfold pickH
  split
  · rename_i g; right; omega
  · exact h
theorem loadN_ok (d : Dv) (ok : d.Ok) : ∀ n, (loadN d n).1.Ok ∧ (loadN d n).1.kept = d.kept ∧ (loadN d n).1.now = d.now ∧ (loadN d n).1.waits = d.waits ∧ ((loadN d n).2.1 = Hd.zero ∨ 1 ≤ (loadN d n).2.1.gen)
  | 0 => ⟨ok, rfl, rfl, rfl, .inl rfl⟩
  | n + 1 => by
    obtain ⟨a, b, c, d', e⟩ := loadN_ok d ok n
    obtain ⟨r1, r2, r3⟩ := read_kept (loadN d n).1 n
    unfold loadN
    split
    · exact ⟨a, b, c, d', e⟩
    · split
      · exact ⟨Dv.call_ok a _, r1.trans b, r2.trans c, r3.trans d', .inl rfl⟩
      · exact ⟨Dv.call_ok a _, r1.trans b, r2.trans c, r3.trans d', pickH_ok e⟩
theorem loadN_err (d : Dv) : ∀ n, (loadN d n).2.2 ≠ 0 → (loadN d n).2.1 = Hd.zero
  | 0, h => absurd rfl h
  | n + 1, h => by
    unfold loadN at h ⊢
    split at h
    · rename_i g; rw [if_pos g]; exact loadN_err d n g
    · rename_i g
      rw [if_neg g]
      split at h
      · rename_i g2; rw [if_pos g2]
      · exact absurd rfl h
theorem h9_Load (b : Nat) (d : Dv) (R : List HP) (ok : d.Ok) :
    TriE Tryd.prog 23 #[.pointer (some ⟨b, 0, none⟩)] (fun v M => v = .tuple #[.agg (loadS d).2.1.L.toArray, .int .i64 (loadS d).2.2] ∧ M = DevH b (loadS d).1 :: R) (DevH b d :: R) := by
  have hlen := ok.size
  have hzl : Hd.zero.L = hdL 0 0 0 0 0 := rfl
  refine Tri.of (N := 58) (args := [.pointer (some ⟨b, 0, none⟩)]) Tryd.func23 rfl rfl rfl ?_
  refine go ?_
  intro b2
  refine go ?_
  refine WO.callE (vs := [.pointer (some ⟨b, 0, none⟩)]) Tryd.func35 rfl rfl rfl rfl (TriE.ent ent (dv_LenH b d (pts b2 (.cells (hdL 0 0 0 0 0).toArray 46) :: R))) ?_
  rintro v M ⟨rfl, rfl⟩
  by_cases h0 : d.kept.length = 0
  · have e : loadS d = (d, Hd.zero, 1) := by unfold loadS; rw [if_pos h0]
    rw [e]
    refine go ?_
    exact ⟨rfl, [_, _], ⟨Res.cell rfl le0 nl, Res.tmp rfl, trivial⟩, DevH b d :: R, ent, rfl, rfl⟩
  refine go ?_
  intro b4
  refine go ?_
  refine WO.callE (vs := [.pointer (some ⟨b, 0, none⟩)]) Tryd.func35 rfl rfl rfl rfl (TriE.ent ent (dv_LenH b d (pts b4 (.cells (hdL 0 0 0 0 0).toArray 46) :: pts b2 (.cells (hdL 0 0 0 0 0).toArray 46) :: R))) ?_
  rintro v M ⟨rfl, rfl⟩
  have hmin : min (2 : Int) (d.kept.length : Int) = ((min 2 d.kept.length : Nat) : Int) := by omega
  have hS : loadS d = if (loadN d (min 2 d.kept.length)).2.2 ≠ 0 then loadN d (min 2 d.kept.length)
    else if (loadN d (min 2 d.kept.length)).2.1.gen = 0 then ((loadN d (min 2 d.kept.length)).1, Hd.zero, 13) else loadN d (min 2 d.kept.length) := by unfold loadS; rw [if_neg h0]
  have hm2 : min 2 d.kept.length ≤ d.kept.length := by omega
  have hstay : ∀ n m, n ≤ m → (loadN d n).2.2 ≠ 0 → loadN d m = loadN d n := by
    intro n m h hne
    obtain ⟨k, rfl⟩ : ∃ k, m = n + k := ⟨m - n, by omega⟩
    clear h
    induction k with
    | zero => rfl
    | succ k ih =>
      rw [show n + (k + 1) = (n + k) + 1 by omega]
      conv => lhs; unfold loadN
      rw [ih, if_pos hne]
  refine go ?_
  refine W.loopS 9007199254610920 rfl (fun n : Nat => [(17, .int .i64 (n : Int))]) (fun n => DevH b (loadN d n).1 :: pts b4 (.cells (loadN d n).2.1.L.toArray 46) :: pts b2 (.cells (hdL 0 0 0 0 0).toArray 46) :: R) (fun n => n ≤ min 2 d.kept.length ∧ (loadN d n).2.2 = 0) (fun n => 2 - n) 0 ⟨rfl, trivial⟩ ⟨Nat.zero_le _, rfl⟩ (Ent.app ent) ?_
  rintro n bg ⟨hn, he⟩
  obtain ⟨k1, k2, k3, k4, k5⟩ := loadN_ok d ok n
  have hn1 : loadN d (n + 1) = if (loadN d n).2.2 ≠ 0 then loadN d n else if ((loadN d n).1.read n).2 ≠ 0 then (((loadN d n).1.read n).1, Hd.zero, ((loadN d n).1.read n).2) else
      (((loadN d n).1.read n).1, pickH (loadN d n).2.1 ((loadN d n).1.now.getD n []) n d.kept.length, 0) := rfl
  rw [if_neg (by rw [he]; simp)] at hn1
  by_cases hlt : n < min 2 d.kept.length
  · have hst := hstay (n + 1) (min 2 d.kept.length) (by omega)
    generalize loadN d n = x at *
    obtain ⟨x1, ⟨lg, lE, lp, lq, ll⟩, xe⟩ := x
    dsimp only at he k1 k2 k3 k4 k5 hn1
    dsimp only [Hd.L]
    obtain ⟨r1, r2, r3⟩ := read_kept x1 n
    have hR := fun R => dv_Read b x1 n R k1
    have hsl : (x1.now.getD n []).length = 256 := by
      have h1 : n < x1.now.length := by rw [k1.now, k2]; omega
      have : x1.now.getD n [] = x1.now[n] := by simp [h1]
      rw [this]
      exact k1.n256 _ (List.getElem_mem h1)
    rw [Int.toNat_natCast] at hR
    generalize x1.now.getD n [] = s at *
    generalize x1.read n = r at *
    refine go ?_
    refine WO.callE (vs := [.pointer (some ⟨b, 0, none⟩), .int .i64 n]) Tryd.func44 rfl rfl rfl rfl (hR _) ?_
    rintro v M (⟨g1, rfl, rfl⟩ | ⟨g1, a6, c6, rfl, s6, rfl⟩)
    · rw [if_pos g1] at hn1
      rw [hn1] at hst
      have hst := hst g1
      rw [hst, if_pos g1] at hS
      rw [hS]
      refine go ?_
      exact ⟨rfl, [_, _], ⟨Res.cell rfl le0 nl, Res.tmp rfl, trivial⟩, DevH b r.1 :: R, ent, rfl, rfl⟩
    · rw [if_neg (fun g => g g1)] at hn1
      rw [← hsl] at s6 ⊢
      refine go ?_
      refine WO.ownCap (E := 5) (sz := 1) (n := s.length) (xs := s.map u8V) (show Tk _ (OS a6 c6 s) _ from tk) fun hcap => ?_
      refine WO.callE (vs := [.pointer (some ⟨b, 0, none⟩)]) Tryd.func35 rfl rfl rfl rfl (TriE.ent ent (dv_LenH b r.1 (OS a6 c6 s :: pts b4 (.cells (hdL lg lE lp lq ll).toArray 46) :: pts b2 (.cells (hdL 0 0 0 0 0).toArray 46) :: R))) ?_
      rintro v M ⟨rfl, rfl⟩
      rw [r1, k2]
      refine WO.callE (vs := [.slice a6 s.length c6, .int .i64 d.kept.length]) Tryd.func45 rfl rfl rfl rfl (TriE.ent ent (h9_Of (OS a6 c6 s) a6 c6 s d.kept.length (DevH b r.1 :: pts b4 (.cells (hdL lg lE lp lq ll).toArray 46) :: pts b2 (.cells (hdL 0 0 0 0 0).toArray 46) :: R) (by omega) (by omega) hcap (OS.rd Tk.here s6))) ?_
      rintro v M ⟨rfl, rfl⟩
      have hslt := fun L => h9_slot (hdOf s d.kept.length) L
      have hpk : pickH ⟨lg, lE, lp, lq, ll⟩ s n d.kept.length = if hdOk s d.kept.length = true ∧ (hdOf s d.kept.length).gen % 2 = n ∧ lg < (hdOf s d.kept.length).gen then hdOf s d.kept.length else ⟨lg, lE, lp, lq, ll⟩ := rfl
      rw [hpk] at hn1
      generalize hdOf s d.kept.length = hh at *
      generalize hdOk s d.kept.length = hok at *
      obtain ⟨g, e, p, q, l⟩ := hh
      dsimp only at hn1
      dsimp only [Hd.L] at hslt ⊢
      refine go ?_
      intro b8
      cases hok with
      | false =>
        rw [if_neg (by simp)] at hn1
        refine go ?_
        refine ⟨n + 1, ⟨rfl, trivial⟩, rfl, ⟨by omega, by rw [hn1]⟩, by omega, Ent.app ?_⟩
        rw [hn1]
        exact ent
      | true =>
        refine go ?_
        refine WO.callE (vs := [.agg (hdL g e p q l).toArray]) Tryd.func38 rfl rfl rfl rfl (hslt _) ?_
        rintro v M ⟨rfl, rfl⟩
        by_cases hg : g % 2 = n
        · by_cases hgt : lg < g
          · rw [if_pos ⟨rfl, hg, hgt⟩] at hn1
            refine go ?_
            refine ⟨n + 1, ⟨rfl, trivial⟩, rfl, ⟨by omega, by rw [hn1]⟩, by omega, Ent.app ?_⟩
            rw [hn1]
            exact ent
          · rw [if_neg (fun z => hgt z.2.2)] at hn1
            refine go ?_
            refine ⟨n + 1, ⟨rfl, trivial⟩, rfl, ⟨by omega, by rw [hn1]⟩, by omega, Ent.app ?_⟩
            rw [hn1]
            exact ent
        · rw [if_neg (fun z => hg z.2.1)] at hn1
          refine go ?_
          refine ⟨n + 1, ⟨rfl, trivial⟩, rfl, ⟨by omega, by rw [hn1]⟩, by omega, Ent.app ?_⟩
          rw [hn1]
          exact ent
  · obtain rfl : n = min 2 d.kept.length := by omega
    rw [if_neg (by rw [he]; simp)] at hS
    rw [hS]
    clear hS hn1 hstay
    generalize loadN d (min 2 d.kept.length) = x at *
    obtain ⟨x1, ⟨lg, lE, lp, lq, ll⟩, xe⟩ := x
    dsimp only at he k1 k2 k3 k4 k5
    dsimp only [Hd.L]
    subst he
    by_cases hz : lg = 0
    · have hk := k5.resolve_right (by omega)
      injection hk with q1 q2 q3 q4 q5
      subst q1; subst q2; subst q3; subst q4; subst q5
      rw [if_pos rfl]
      refine go ?_
      refine WO.sv rfl ?_
      refine SV.eqlSt (xs := hdL 0 0 0 0 0) (ys := hdL 0 0 0 0 0) (b := true) rfl rfl rfl rfl rfl (sEq_self _) ?_
      refine go ?_
      exact ⟨rfl, [_, _], ⟨Res.cell rfl le0 nl, Res.tmp rfl, trivial⟩, DevH b x1 :: R, ent, rfl, rfl⟩
    · rw [if_neg hz]
      refine go ?_
      refine WO.sv rfl ?_
      refine SV.eqlSt (xs := hdL lg lE lp lq ll) (ys := hdL 0 0 0 0 0) (b := false) rfl rfl rfl rfl rfl (by
        have : ¬((lg : Int) = ((0 : Nat) : Int)) := by omega
        simp only [hdL, sEq]
        rw [decide_eq_false this, Bool.false_and]) ?_
      refine go ?_
      exact ⟨rfl, [_, _], ⟨Res.cell rfl le0 nl, Res.tmp rfl, trivial⟩, DevH b x1 :: R, ent, rfl, rfl⟩
end Go.SL

/- Layer 7: the law DevKeeps, walked. -/
namespace Go.SL
open Go.Proofs
set_option linter.unusedVariables false
set_option maxRecDepth 10000
set_option maxHeartbeats 4000000
attribute [local irreducible] W WO SV OW SW Tri Ent Tk Has Src SrcK DA DB RdS Own

/-- No call falls. -/
structure Dv.Calm (d : Dv) : Prop where
  ok : d.Ok
  some : d.kept.length ≠ 0
  arm : d.arm = -1
  down : d.down = false
theorem Dv.call_calm {d : Dv} (h : d.Calm) : d.call true = ({ d with ops := IntKind.i64.wrap (d.ops + 1) }, 0) := by
  obtain ⟨_, h1, h2, h3⟩ := h
  obtain ⟨kept, now, waits, arm, down, ops⟩ := d
  simp only at h1 h2 h3
  subst h2; subst h3
  unfold Dv.call
  rw [if_neg h1, if_neg (by decide)]
  rfl
theorem Dv.is_of {d : Dv} {n : Int} (h : 0 ≤ n ∧ n < d.kept.length) : d.is n = true := by
  unfold Dv.is; rw [decide_eq_true h.1, decide_eq_true h.2]; rfl
theorem Dv.read_calm {d : Dv} (h : d.Calm) {n : Int} (hn : 0 ≤ n ∧ n < d.kept.length) : d.read n = ({ d with ops := IntKind.i64.wrap (d.ops + 1) }, 0) := by
  unfold Dv.read; rw [Dv.is_of hn, Dv.call_calm h]
theorem Dv.put_calm {d : Dv} (h : d.Calm) {n : Int} {s : Byt} (hn : 0 ≤ n ∧ n < d.kept.length) (hs : s.length = 256) :
    d.put n s = ({ d with ops := IntKind.i64.wrap (d.ops + 1), now := d.now.set n.toNat s, waits := d.waits ++ [(n.toNat, s)] }, 0) := by
  unfold Dv.put; rw [Dv.is_of hn, decide_eq_true hs, Bool.true_and, Dv.call_calm h, if_pos rfl]
theorem Dv.flush_calm {d : Dv} (h : d.Calm) : d.flush = ({ d with ops := IntKind.i64.wrap (d.ops + 1), kept := d.now, waits := [] }, 0) := by
  unfold Dv.flush; rw [Dv.call_calm h, if_pos rfl, h.ok.sync]
theorem Dv.Calm.ops {d : Dv} (h : d.Calm) (n : Int) : ({ d with ops := n } : Dv).Calm := ⟨⟨h.ok.now, h.ok.size, h.ok.k256, h.ok.n256, h.ok.w256, h.ok.arm, h.ok.sync⟩, h.some, h.arm, h.down⟩
theorem Dv.Calm.read {d : Dv} (h : d.Calm) {n : Int} (hn : 0 ≤ n ∧ n < d.kept.length) : (d.read n).1.Calm := by rw [Dv.read_calm h hn]; exact h.ops _
theorem Dv.Calm.put {d : Dv} (h : d.Calm) {n : Int} {s : Byt} (hn : 0 ≤ n ∧ n < d.kept.length) (hs : s.length = 256) : (d.put n s).1.Calm := by
  refine ⟨Dv.put_ok h.ok n s, ?_, ?_, ?_⟩ <;> rw [Dv.put_calm h hn hs]
  · exact h.some
  · exact h.arm
  · exact h.down
theorem Dv.Calm.flush {d : Dv} (h : d.Calm) : d.flush.1.Calm := by
  refine ⟨Dv.flush_ok h.ok, ?_, ?_, ?_⟩ <;> rw [Dv.flush_calm h]
  · show d.now.length ≠ 0; rw [h.ok.now]; exact h.some
  · exact h.arm
  · exact h.down
theorem Dv.Calm.new {n : Nat} (h : 1 ≤ n) (h' : n ≤ 4096) : (Dv.new n).Calm := ⟨Dv.new_ok h', by simp [Dv.new]; omega, rfl, rfl⟩
theorem Dv.Calm.fall {d : Dv} (ok : d.Ok) (h : d.kept.length ≠ 0) (ks : List Int) : (d.fall ks).Calm := by
  refine ⟨Dv.fall_ok ok ks, ?_, ?_, ?_⟩ <;> rw [Dv.fall, if_neg h]
  rw [fallN_len]; exact h
theorem getD_setL {l : List Byt} {k j : Nat} {u : Byt} (hk : k < l.length) : (l.set k u).getD j [] = if j = k then u else l.getD j [] := by
  simp only [List.getD_eq_getElem?_getD, List.getElem?_set]
  by_cases h : k = j
  · subst h; simp [hk]
  · have h' : ¬ j = k := fun e => h e.symm
    simp [h, h']
theorem getD_setB {l : List Bool} {k j : Nat} {u : Bool} (hk : k < l.length) : (l.set k u).getD j false = if j = k then u else l.getD j false := by
  simp only [List.getD_eq_getElem?_getD, List.getElem?_set]
  by_cases h : k = j
  · subst h; simp [hk]
  · have h' : ¬ j = k := fun e => h e.symm
    simp [h, h']
theorem rep_get (c : UInt8) {i : Nat} (h : i < 256) : ((rep c).map u8V)[i]? = some (u8V c) := by
  rw [rep, List.map_replicate, List.getElem?_replicate, if_pos h]
theorem rep_mem {c x : UInt8} (h : x ∈ rep c) : x = c := (List.mem_replicate.1 h).2
/-- Each byte behind a fall is of what was kept, or of a write. -/
theorem fall_bytes {P : Nat → UInt8 → Prop} {kept : List Byt} {waits : List (Nat × Byt)} {ks : List Int} (hk : ∀ k, ∀ c ∈ kept.getD k [], P k c) (hw : ∀ w ∈ waits, w.1 < kept.length ∧ ∀ c ∈ w.2, P w.1 c) :
    ∀ i, i ≤ waits.length → ∀ k, ∀ c ∈ (fallN kept waits ks i).getD k [], P k c
  | 0, _, k, c, h => hk k c h
  | i + 1, hi, k, c, h => by
    have ih := fall_bytes (ks := ks) hk hw i (by omega)
    have hm := hw _ (getD_mem (l := waits) (i := i) (x := (0, [])) (by omega))
    rw [fallN, getD_setL (by rw [fallN_len]; exact hm.1)] at h
    by_cases e : k = (waits.getD i (0, [])).1
    · rw [if_pos e] at h
      rw [e]
      rcases List.mem_append.1 h with q | q
      · exact hm.2 c (List.mem_of_mem_take q)
      · exact ih _ c (List.mem_of_mem_drop q)
    · rw [if_neg e] at h; exact ih k c h

structure ActD where
  kind : Int
  n : Int
  c : UInt8
  ka : Option Addr
  ks : List Int
  kc : Nat
/-- What is known of a step that came in. -/
def ActD.Okk (L : List HP) (x : ActD) : Prop := (-9223372036854775808 ≤ x.kind ∧ x.kind ≤ 9223372036854775807) ∧ (-9223372036854775808 ≤ x.n ∧ x.n ≤ 9223372036854775807) ∧ x.ks.length ≤ 9223372036854775807 ∧ RdS 1 x.ka x.ks.length (x.ks.map (Value.int .i64)) L
def actD (x : ActD) : List Value := [.int .i64 x.kind, .int .i64 x.n, u8V x.c, .slice x.ka x.ks.length x.kc]

end Go.SL

/- Layer 9: the plain law of heads; the law's known head. -/
namespace Go.SL
open Go.Proofs
set_option linter.unusedVariables false
set_option maxRecDepth 10000
set_option maxHeartbeats 4000000
attribute [local irreducible] W WO SV OW SW Tri Ent Tk Has Src SrcK DA DB RdS Own DevH

/-- A head's block is read as it was. -/
theorem hd_back {h : Hd} (fit : h.Fit) {b : Int} (r : HdR h (min b 4096)) : hdOk h.put b = true ∧ hdOf h.put b = h := by
  have hel := h.enc_len fit
  have r' := r
  unfold HdR at r'
  have hlen : h.put.length = 256 := sealB_len hel
  have hok : rOK h.put = true := rOK_iff.2 ⟨hlen, sealB_ok hel fit.g fit.g mkR9⟩
  obtain ⟨q1, q2, q3⟩ := mkB_read 9 h.gen h.gen ([0, UInt8.ofNat h.enc.length] ++ (h.enc ++ (List.replicate (220 - h.enc.length) 0 ++ mkB 9 h.gen h.gen))) fit.g fit.g
  have c1 : rK h.put = 9 := by unfold rK; rw [hok]; exact q1
  have c2 : rE h.put = h.gen := by unfold rE; rw [hok]; exact q2
  have c3 : rQ h.put = h.gen := by unfold rQ; rw [hok]; exact q3
  have c4 : rB h.put = h.enc := by unfold rB; rw [hok]; exact sealB_opB hel
  have hp : h.pos.toNat < 18446744073709551616 := by have := fit.p; omega
  have hl : h.log.toNat < 18446744073709551616 := by have := fit.l; omega
  have hR : hdRead h.put = (h, 0) := by
    unfold hdRead
    rw [c2, c4]
    unfold Hd.enc
    dsimp only
    rw [LI.num_enc fit.e]
    dsimp only
    rw [LI.small_enc hp (by omega)]
    dsimp only
    rw [LI.num_enc fit.s]
    dsimp only
    have e4 := LI.small_enc hl (show h.log.toNat ≤ 4096 by omega) []
    rw [List.append_nil] at e4
    rw [e4]
    dsimp only [LI.fin]
    rw [Int.toNat_of_nonneg (by omega), Int.toNat_of_nonneg (by omega)]
    rfl
  have hO : hdOk h.put b = true := by
    unfold hdOk
    rw [hR, hok, c1, c2, c3, decide_eq_true (show (9 : UInt8) = 9 ∧ h.gen = h.gen from ⟨rfl, rfl⟩), decide_eq_true r]
    rfl
  refine ⟨hO, ?_⟩
  unfold hdOf
  rw [hO, hR]
  rfl
/-- A block of bytes 0 is none. -/
theorem hd_zero (b : Int) : hdOk zero256 b = false := by
  have : rOK zero256 = false := by
    unfold rOK opOk
    have h0 : mkR (zero256.getD 0 0) = false := by
      unfold zero256
      rw [List.getD_eq_getElem?_getD, List.getElem?_replicate]
      rfl
    rw [h0]
    simp
  unfold hdOk
  rw [this]
  rfl
/-- The greatest head of the first blocks. -/
def wantN (xs : Nat → Byt) (len : Int) : Nat → Hd
  | 0 => Hd.zero
  | n + 1 => pickH (wantN xs len n) (xs n) n len
theorem wantN_ok (xs : Nat → Byt) (len : Int) : ∀ n, wantN xs len n = Hd.zero ∨ 1 ≤ (wantN xs len n).gen
  | 0 => .inl rfl
  | n + 1 => pickH_ok (wantN_ok xs len n)
theorem loadN_calm {d : Dv} (c : d.Calm) : ∀ n, n ≤ d.kept.length → (loadN d n).1.Calm ∧ (loadN d n).1.kept = d.kept ∧ (loadN d n).1.now = d.now ∧ (loadN d n).1.waits = d.waits ∧ (loadN d n).2.1 = wantN (fun k => d.now.getD k []) d.kept.length n ∧ (loadN d n).2.2 = 0
  | 0, _ => ⟨c, rfl, rfl, rfl, rfl, rfl⟩
  | n + 1, h => by
    obtain ⟨a, b, e, w, f, g⟩ := loadN_calm c n (by omega)
    have hr := Dv.read_calm a (n := n) (by rw [b]; omega)
    have hc := Dv.Calm.read a (n := n) (by rw [b]; omega)
    unfold loadN
    rw [if_neg (by rw [g]; simp), if_neg (by rw [hr]; simp)]
    refine ⟨hc, ?_, ?_, ?_, ?_, rfl⟩
    · rw [hr]; exact b
    · rw [hr]; exact e
    · rw [hr]; exact w
    · show pickH _ _ _ _ = pickH _ _ _ _
      rw [f, e]
theorem loadS_calm {d : Dv} (c : d.Calm) (h : 2 ≤ d.kept.length) : (loadS d).1.Calm ∧ (loadS d).1.kept = d.kept ∧ (loadS d).1.now = d.now ∧ (loadS d).1.waits = d.waits ∧ (loadS d).2.1 = wantN (fun k => d.now.getD k []) d.kept.length 2 ∧
    (loadS d).2.2 = if (wantN (fun k => d.now.getD k []) d.kept.length 2).gen = 0 then 13 else 0 := by
  obtain ⟨a, b, e, w, f, g⟩ := loadN_calm c 2 h
  have hm : min 2 d.kept.length = 2 := by omega
  unfold loadS
  rw [if_neg c.some, hm, if_neg (by rw [g]; simp), f]
  have hw := wantN_ok (fun k => d.now.getD k []) d.kept.length 2
  split
  · rename_i hz
    rcases hw with hw | hw
    · exact ⟨a, b, e, w, hw.symm, rfl⟩
    · omega
  · exact ⟨a, b, e, w, f, g⟩
theorem saveS_calm {d : Dv} (c : d.Calm) {h : Hd} (fit : h.Fit) (r : HdR h d.kept.length) :
    (saveS d h).2 = 0 ∧ (saveS d h).1.Calm ∧ (saveS d h).1.kept = d.now.set (h.gen % 2) h.put ∧ (saveS d h).1.now = d.now.set (h.gen % 2) h.put ∧ (saveS d h).1.waits = [] := by
  have r' := r
  unfold HdR at r'
  have hpl : h.put.length = 256 := sealB_len (h.enc_len fit)
  have hin : (0 : Int) ≤ ((h.gen % 2 : Nat) : Int) ∧ ((h.gen % 2 : Nat) : Int) < d.kept.length := by omega
  have hp := Dv.put_calm c hin hpl
  have hc := Dv.Calm.put c hin hpl
  unfold saveS
  rw [if_neg c.some, if_pos r, if_pos (by rw [hp])]
  refine ⟨by rw [Dv.flush_calm hc], Dv.Calm.flush hc, ?_, ?_, ?_⟩
  · rw [Dv.flush_calm hc, hp]; simp only [Int.toNat_natCast]
  · rw [Dv.flush_calm hc, hp]; simp only [Int.toNat_natCast]
  · rw [Dv.flush_calm hc]
theorem saveS_not {d : Dv} (c : d.Calm) {h : Hd} (r : ¬HdR h d.kept.length) : saveS d h = (d, 2) := by
  unfold saveS
  rw [if_neg c.some, if_neg r]
theorem l9_own (h : Hd) (L : List HP) : TriE Tryd.prog 19 #[.agg h.L.toArray] (fun v M => v = .agg h.L.toArray ∧ M = L) L := by
  obtain ⟨g, e, p, s, l⟩ := h
  refine Tri.of (N := 14) (args := [.agg (hdL g e p s l).toArray]) Tryd.func19 rfl rfl rfl ?_
  refine go ?_
  intro b1
  refine go ?_
  intro b2
  refine go ?_
  exact ⟨rfl, [_], ⟨Res.cell rfl le0 nl, trivial⟩, L, ent, rfl, rfl⟩
def Hd.one : Hd := ⟨1, 1, 0, 1, 5⟩
theorem l9_one (L : List HP) : TriE Tryd.prog 24 #[] (fun v M => v = .bool true ∧ M = L) L := by
  have fit : Hd.one.Fit := ⟨by decide, by decide, by decide, by decide, by decide⟩
  have c0 : (Dv.new 10).Calm := Dv.Calm.new (by decide) (by decide)
  have hk0 : (Dv.new 10).kept.length = 10 := by simp [Dv.new]
  have r : HdR Hd.one ((Dv.new 10).kept.length : Nat) := by rw [hk0]; decide
  obtain ⟨s1, s2, s3, s4, s5⟩ := saveS_calm c0 fit r
  have hS := fun b L => h9_Save b (Dv.new 10) Hd.one L c0.ok (by simp [Dv.new]) fit
  generalize saveS (Dv.new 10) Hd.one = ds at *
  have hn0 : (Dv.new 10).now = List.replicate 10 zero256 := rfl
  rw [hn0] at s3 s4
  have hk1 : ds.1.kept.length = 10 := by rw [s3]; simp
  obtain ⟨t1, t2, t3, t4, t5, t6⟩ := loadS_calm s2 (by omega)
  have hL := fun b L => h9_Load b ds.1 L s2.ok
  have hw : wantN (fun k => ds.1.now.getD k []) ds.1.kept.length 2 = Hd.one := by
    rw [hk1, s4]
    have e0 : ((List.replicate 10 zero256).set (Hd.one.gen % 2) Hd.one.put).getD 0 [] = zero256 := by
      rw [show Hd.one.gen % 2 = 1 from rfl]; simp
    have e1 : ((List.replicate 10 zero256).set (Hd.one.gen % 2) Hd.one.put).getD 1 [] = Hd.one.put := by
      rw [show Hd.one.gen % 2 = 1 from rfl]; simp
    obtain ⟨g1, g2⟩ := hd_back (h := Hd.one) fit (b := 10) (by decide)
    have p0 : pickH Hd.zero zero256 0 ((10 : Nat) : Int) = Hd.zero := by
      unfold pickH; rw [if_neg (by rw [hd_zero]; simp)]
    show pickH (pickH Hd.zero _ 0 _) _ 1 _ = _
    dsimp only
    rw [e0, e1, p0]
    unfold pickH
    have g1' : hdOk Hd.one.put ((10 : Nat) : Int) = true := g1
    have g2' : hdOf Hd.one.put ((10 : Nat) : Int) = Hd.one := g2
    rw [g1', g2', if_pos ⟨rfl, rfl, by decide⟩]
  rw [hw] at t5 t6
  have t6' : (loadS ds.1).2.2 = 0 := t6
  generalize loadS ds.1 = ls at *
  refine Tri.of (N := 33) (args := []) Tryd.func24 rfl rfl rfl ?_
  refine go ?_
  refine WO.callE (vs := [.int .i64 10]) Tryd.func16 rfl rfl rfl rfl (dv_New 10 _ (by decide) (by decide)) ?_
  rintro v M ⟨b, rfl, rfl⟩
  refine go ?_
  intro b3
  refine go ?_
  refine WO.callE (vs := [.pointer (some ⟨b, 0, none⟩), .agg Hd.one.L.toArray]) Tryd.func18 rfl rfl rfl rfl (TriE.ent ent (hS b (pts b3 (.cells (hdL 1 1 0 1 5).toArray 46) :: L))) ?_
  rintro v M ⟨rfl, rfl⟩
  rw [s1]
  refine go ?_
  refine WO.callE (vs := [.pointer (some ⟨b, 0, none⟩)]) Tryd.func23 rfl rfl rfl rfl (hL b _) ?_
  rintro v M ⟨rfl, rfl⟩
  rw [t5, t6']
  dsimp only [Hd.L, Hd.one]
  refine go ?_
  intro b4
  refine go ?_
  refine WO.sv rfl ?_
  refine SV.eqlSt (xs := hdL 1 1 0 1 5) (ys := hdL 1 1 0 1 5) (b := true) rfl rfl rfl rfl rfl (sEq_self _) ?_
  refine go ?_
  exact ⟨rfl, [_], ⟨Res.tmp rfl, trivial⟩, L, ent, rfl, rfl⟩
end Go.SL

/- Layer 9: the law SuperLoads, walked. -/
namespace Go.SL
open Go.Proofs
set_option linter.unusedVariables false
set_option maxRecDepth 10000
set_option maxHeartbeats 4000000
attribute [local irreducible] W WO SV OW SW Tri Ent Tk Has Src SrcK DA DB RdS Own DevH

/-- The device, and what its first two blocks are. -/
structure St9 where
  d : Dv
  x0 : Byt
  x1 : Byt
structure St9.Ok (s : St9) : Prop where
  c : s.d.Calm
  k : s.d.kept.length = 12
  w : s.d.waits.length ≤ 4
  n0 : s.d.now.getD 0 [] = s.x0
  n1 : s.d.now.getD 1 [] = s.x1
theorem St9.Ok.put {s : St9} (h : s.Ok) (hw : s.d.waits.length ≤ 3) {b : Byt} (hb : b.length = 256) : St9.Ok ⟨(s.d.put 0 b).1, b, s.x1⟩ ∧ St9.Ok ⟨(s.d.put 1 b).1, s.x0, b⟩ := by
  have hn : s.d.now.length = 12 := h.c.ok.now.trans h.k
  have e0 := Dv.put_calm h.c (n := 0) (s := b) (by rw [h.k]; omega) hb
  have e1 := Dv.put_calm h.c (n := 1) (s := b) (by rw [h.k]; omega) hb
  refine ⟨⟨Dv.Calm.put h.c (by rw [h.k]; omega) hb, ?_, ?_, ?_, ?_⟩, ⟨Dv.Calm.put h.c (by rw [h.k]; omega) hb, ?_, ?_, ?_, ?_⟩⟩
  · rw [e0]; exact h.k
  · rw [e0]; simp; omega
  · rw [e0]; dsimp only; rw [getD_setL (by omega)]; rfl
  · rw [e0]; dsimp only; rw [getD_setL (by omega)]; exact h.n1
  · rw [e1]; exact h.k
  · rw [e1]; simp; omega
  · rw [e1]; dsimp only; rw [getD_setL (by omega)]; exact h.n0
  · rw [e1]; dsimp only; rw [getD_setL (by omega)]; rfl
theorem l9_loads (X : HP) (R : List HP) (a1 : Option Addr) (c1 : Nat) (a : Byt) (a2 : Option Addr) (c2 : Nat) (b : Byt) (h : Hd) (fit : h.Fit) (ha : a.length ≤ 9223372036854775807) (hb : b.length ≤ 9223372036854775807)
    (r1 : RdS 1 a1 a.length (a.map u8V) [X]) (r2 : RdS 1 a2 b.length (b.map u8V) [X]) :
    TriE Tryd.prog 7 #[.slice a1 a.length c1, .slice a2 b.length c2, .agg h.L.toArray] (fun v M => v = .bool true ∧ M = X :: R) (X :: R) := by
  have rA : ∀ M, RdS 1 a1 a.length (a.map u8V) (X :: M) := fun M => RdS.ent ent r1
  have rB : ∀ M, RdS 1 a2 b.length (b.map u8V) (X :: M) := fun M => RdS.ent ent r2
  have hOwn := fun L => l9_own h L
  have hRr := fun L => r9_Right h 12 L (by decide)
  have hSave := fun bb d L ok hw => h9_Save bb d h L ok hw fit
  have hPutR := fun L h0 => r9_Put h L fit h0
  have hSc := fun d (c : Dv.Calm d) r => saveS_calm c fit r
  have hSn := fun d (c : Dv.Calm d) r => saveS_not (h := h) c r
  have hRp : HdR h 12 → 0 ≤ h.pos ∧ 0 ≤ h.log := by unfold HdR; intro g; omega
  have hpl : h.put.length = 256 := sealB_len (h.enc_len fit)
  obtain ⟨g, e, p, q, l⟩ := h
  generalize hHp : Hd.put ⟨g, e, p, q, l⟩ = hp at *
  dsimp only [Hd.L] at hOwn hRr hSave hPutR
  dsimp only at hRp
  refine Tri.of (N := 134) (args := [.slice a1 a.length c1, .slice a2 b.length c2, .agg (hdL g e p q l).toArray]) Tryd.func7 rfl rfl rfl ?_
  refine go ?_
  intro b5
  refine go ?_
  refine WO.callE (vs := [.int .i64 12]) Tryd.func16 rfl rfl rfl rfl (dv_New 12 _ (by decide) (by decide)) ?_
  rintro v M ⟨db, rfl, rfl⟩
  have s0 : St9.Ok ⟨Dv.new 12, zero256, zero256⟩ := ⟨Dv.Calm.new (by decide) (by decide), by simp [Dv.new], by simp [Dv.new], by simp [Dv.new], by simp [Dv.new]⟩
  have hw0 : (Dv.new 12).waits.length = 0 := rfl
  rw [show (12 : Int).toNat = 12 from rfl]
  generalize Dv.new 12 = d0 at *
  refine go ?_
  refine W.drawB #[0, 1, 0, 4, 15, 0, 63] [] (DevH db d0 :: pts b5 (.cells (hdL g e p q l).toArray 46) :: X :: R) rfl (by kernel_rfl) (by kernel_rfl) (by kernel_rfl) ent ?_
  refine go ?_
  refine DB.mk (m := 256) rfl (by decide) (by decide) rfl rfl ?_
  intro m1
  rw [show List.replicate 256 (Value.int .u8 0) = zero256.map u8V by unfold zero256; rw [List.map_replicate]; rfl]
  refine DB.q (v := strV zero256) rfl rfl hl (SV.toStrR rfl (bs := zero256) (RdS.all (sz := 1) (n := 256) (by simp [zero256])) eqq) ?_
  refine DB.mk (m := 256) rfl (by decide) (by decide) rfl rfl ?_
  intro m2
  rw [show List.replicate 256 (Value.int .u8 0) = zero256.map u8V by unfold zero256; rw [List.map_replicate]; rfl]
  refine DB.q (v := strV zero256) rfl rfl hl (SV.toStrR rfl (bs := zero256) (RdS.all (sz := 1) (n := 256) (by simp [zero256])) eqq) ?_
  refine go ?_
  refine DB.q (v := .agg [strV zero256, strV zero256].toArray) rfl rfl hl (SV.buildArr parts rfl nl eqq) ?_
  refine DB.alloc rfl ?_
  intro b9
  refine DB.v rfl rfl rfl hl hl ?_
  refine SV.store rfl rfl cel rfl rfl rfl frz le0 nl ?_
  refine ⟨[], pts b9 (.cells [strV zero256, strV zero256].toArray 50) :: DevH db d0 :: pts b5 (.cells (hdL g e p q l).toArray 46) :: X :: R, ent, ?_⟩
  refine go ?_
  refine ⟨pts b9 (.cells [strV zero256, strV zero256].toArray 50) :: DevH db d0 :: pts b5 (.cells (hdL g e p q l).toArray 46) :: X :: R, ent, ?_⟩
  refine goC ?_
  refine W.cut (σ := Bool) 60129542144 rfl (fun t => [(35, .bool t)]) (fun _ => DevH db d0 :: pts b9 (.cells [strV zero256, strV zero256].toArray 50) :: pts b5 (.cells (hdL g e p q l).toArray 46) :: X :: R) (fun t => t = decide (a.length = 256)) ?_ ?_
  · by_cases g0 : a.length = 256
    · refine go ?_
      exact ⟨true, ⟨rfl, trivial⟩, rfl, (decide_eq_true g0).symm, ent⟩
    · refine go ?_
      exact ⟨false, ⟨rfl, trivial⟩, rfl, (decide_eq_false g0).symm, ent⟩
  rintro t bg ht
  refine goC ?_
  refine W.cut (σ := St9) 4329327034368 rfl (fun _ => []) (fun s => DevH db s.d :: pts b9 (.cells [strV s.x0, strV s.x1].toArray 50) :: pts b5 (.cells (hdL g e p q l).toArray 46) :: X :: R) (fun s => s.Ok ∧ s.d.waits.length ≤ 1) ?_ ?_
  · refine W.cond rfl (fun z => ?_) (fun z => ?_)
    · have g0 : a.length = 256 := by rw [ht] at z; simpa using z
      refine go ?_
      refine WO.callE (vs := [.pointer (some ⟨db, 0, none⟩), .int .i64 0, .slice a1 a.length c1]) Tryd.func17 rfl rfl rfl rfl
        (TriE.ent ent (dv_Write db d0 0 a1 c1 a (X :: pts b9 (.cells [strV zero256, strV zero256].toArray 50) :: pts b5 (.cells (hdL g e p q l).toArray 46) :: R) s0.c.ok (by omega) (by omega) (rA _))) ?_
      rintro v M ⟨rfl, rfl⟩
      have hn := (s0.put (by dsimp only; omega) g0).1
      have hw1 := put_waits d0 0 a
      refine go ?_
      refine WO.sv rfl ?_
      refine SV.toStrR rfl (bs := a) (RdS.ent ent r1) ?_
      refine go ?_
      exact ⟨⟨(d0.put 0 a).1, a, zero256⟩, trivial, rfl, ⟨hn, by dsimp only; omega⟩, ent⟩
    · refine go ?_
      exact ⟨⟨d0, zero256, zero256⟩, trivial, rfl, ⟨s0, by dsimp only; omega⟩, ent⟩
  clear ht s0 hw0
  rintro ⟨d1, x0, x1⟩ bg2 ⟨s0, hw0⟩
  dsimp only at hw0 ⊢
  refine goC ?_
  refine W.cut (σ := Bool) 30786325577728 rfl (fun t => [(44, .bool t)]) (fun _ => DevH db d1 :: pts b9 (.cells [strV x0, strV x1].toArray 50) :: pts b5 (.cells (hdL g e p q l).toArray 46) :: X :: R) (fun t => t = decide (b.length = 256)) ?_ ?_
  · by_cases g0 : b.length = 256
    · refine go ?_
      exact ⟨true, ⟨rfl, trivial⟩, rfl, (decide_eq_true g0).symm, ent⟩
    · refine go ?_
      exact ⟨false, ⟨rfl, trivial⟩, rfl, (decide_eq_false g0).symm, ent⟩
  rintro t2 bg3 ht
  refine goC ?_
  refine W.cut (σ := St9) 2216615441596416 rfl (fun _ => []) (fun s => DevH db s.d :: pts b9 (.cells [strV s.x0, strV s.x1].toArray 50) :: pts b5 (.cells (hdL g e p q l).toArray 46) :: X :: R) (fun s => s.Ok ∧ s.d.waits.length ≤ 2) ?_ ?_
  · refine W.cond rfl (fun z => ?_) (fun z => ?_)
    · have g0 : b.length = 256 := by rw [ht] at z; simpa using z
      refine go ?_
      refine WO.callE (vs := [.pointer (some ⟨db, 0, none⟩), .int .i64 1, .slice a2 b.length c2]) Tryd.func17 rfl rfl rfl rfl
        (TriE.ent ent (dv_Write db d1 1 a2 c2 b (X :: pts b9 (.cells [strV x0, strV x1].toArray 50) :: pts b5 (.cells (hdL g e p q l).toArray 46) :: R) s0.c.ok (by omega) (by omega) (rB _))) ?_
      rintro v M ⟨rfl, rfl⟩
      have hn := (s0.put (by dsimp only; omega) g0).2
      have hw1 := put_waits d1 1 b
      refine go ?_
      refine WO.sv rfl ?_
      refine SV.toStrR rfl (bs := b) (RdS.ent ent r2) ?_
      refine go ?_
      exact ⟨⟨(d1.put 1 b).1, x0, b⟩, trivial, rfl, ⟨hn, by dsimp only; omega⟩, ent⟩
    · refine go ?_
      exact ⟨⟨d1, x0, x1⟩, trivial, rfl, ⟨s0, by dsimp only; omega⟩, ent⟩
  clear ht s0 hw0 d1 x0 x1
  rintro ⟨d2, x0, x1⟩ bg4 ⟨s0, hw0⟩
  dsimp only at hw0 ⊢
  have c2' := s0.c
  have k2' := s0.k
  dsimp only at c2' k2'
  refine go ?_
  refine WO.callE (vs := [.pointer (some ⟨db, 0, none⟩), .agg (hdL g e p q l).toArray]) Tryd.func18 rfl rfl rfl rfl (hSave db d2 _ c2'.ok (by omega)) ?_
  rintro v M ⟨rfl, rfl⟩
  refine go ?_
  refine WO.callE (vs := [.agg (hdL g e p q l).toArray]) Tryd.func19 rfl rfl rfl rfl (hOwn _) ?_
  rintro v M ⟨rfl, rfl⟩
  refine go ?_
  intro b11
  have hSc' := hSc d2 c2'
  have hSn' := hSn d2 c2'
  rw [k2'] at hSc' hSn'
  have hn12 : d2.now.length = 12 := c2'.ok.now.trans k2'
  generalize saveS d2 ⟨g, e, p, q, l⟩ = sv at *
  refine WO.sv rfl ?_
  refine SV.store rfl rfl cel rfl rfl rfl frz le0 nl ?_
  refine goC ?_
  refine W.cut (σ := Unit) 590223752764667723776 rfl (fun _ => [(68, .bool false)]) (fun _ => DevH db sv.1 :: pts b9 (.cells [strV x0, strV x1].toArray 50) :: pts b11 (.cells (hdL g e p q l).toArray 53) :: pts b5 (.cells (hdL g e p q l).toArray 46) :: X :: R) (fun _ => True) ?_ ?_
  · by_cases hr : HdR ⟨g, e, p, q, l⟩ 12
    · obtain ⟨z1, _⟩ := hSc' hr
      rw [z1]
      refine go ?_
      refine WO.callE (vs := [.agg (hdL g e p q l).toArray, .int .i64 12]) Tryd.func20 rfl rfl rfl rfl (hRr _) ?_
      rintro v M ⟨rfl, rfl⟩
      rw [decide_eq_true hr]
      refine go ?_
      exact ⟨(), ⟨rfl, trivial⟩, rfl, trivial, ent⟩
    · have z1 := hSn' hr
      rw [z1]
      dsimp only
      refine go ?_
      refine WO.callE (vs := [.agg (hdL g e p q l).toArray, .int .i64 12]) Tryd.func20 rfl rfl rfl rfl (hRr _) ?_
      rintro v M ⟨rfl, rfl⟩
      rw [decide_eq_false hr]
      refine go ?_
      exact ⟨(), ⟨rfl, trivial⟩, rfl, trivial, ent⟩
  rintro - bg5 -
  refine goC ?_
  refine W.cut (σ := Bool) 1770887431076116955136 rfl (fun t => [(70, .bool t)]) (fun _ => DevH db sv.1 :: pts b9 (.cells [strV x0, strV x1].toArray 50) :: pts b11 (.cells (hdL g e p q l).toArray 53) :: pts b5 (.cells (hdL g e p q l).toArray 46) :: X :: R) (fun t => t = decide (HdR ⟨g, e, p, q, l⟩ 12)) ?_ ?_
  · by_cases hr : HdR ⟨g, e, p, q, l⟩ 12
    · obtain ⟨z1, _⟩ := hSc' hr
      rw [z1]
      refine go ?_
      exact ⟨true, ⟨rfl, trivial⟩, rfl, (decide_eq_true hr).symm, ent⟩
    · have z1 := hSn' hr
      rw [z1]
      dsimp only
      refine go ?_
      exact ⟨false, ⟨rfl, trivial⟩, rfl, (decide_eq_false hr).symm, ent⟩
  rintro t bg6 ht
  refine goC ?_
  refine W.cut (σ := St9) 148754544210393824231424 rfl (fun _ => []) (fun s => DevH db s.d :: pts b9 (.cells [strV s.x0, strV s.x1].toArray 50) :: X :: R) (fun s => s.Ok) ?_ ?_
  · refine W.cond rfl (fun z => ?_) (fun z => ?_)
    · have hr : HdR ⟨g, e, p, q, l⟩ 12 := by rw [ht] at z; simpa using z
      obtain ⟨z1, z2, z3, z4, z5⟩ := hSc' hr
      dsimp only at z3 z4
      rcases Nat.mod_two_eq_zero_or_one g with hg | hg
      · have hst : St9.Ok ⟨sv.1, hp, x1⟩ := by
          refine ⟨z2, ?_, ?_, ?_, ?_⟩
          · dsimp only; rw [z3, List.length_set]; exact hn12
          · dsimp only; rw [z5]; decide
          · dsimp only; rw [z4, getD_setL (by omega), if_pos hg.symm]
          · dsimp only; rw [z4, getD_setL (by omega), if_neg (by omega)]; exact s0.n1
        have hgm : (g : Int) % 2 = 0 := by omega
        refine go ?_
        refine W.drawB #[0, 1, 3, 0, 8, 31, 63] [pts b5 (.cells (hdL g e p q l).toArray 46), pts b11 (.cells (hdL g e p q l).toArray 53)] (pts b9 (.cells [strV x0, strV x1].toArray 50) :: DevH db sv.1 :: X :: R) rfl (by kernel_rfl) (by kernel_rfl) (by kernel_rfl) ent ?_
        refine go ?_
        rw [hgm]
        refine go ?_
        refine DB.callE (vs := [.agg (hdL g e p q l).toArray]) Tryd.func21 rfl rfl rfl rfl hl hl (hPutR _ (hRp hr)) ?_
        rintro v M ⟨rfl, rfl⟩
        refine ⟨[], pts b9 (.cells [strV x0, strV x1].toArray 50) :: DevH db sv.1 :: X :: R, ent, ?_⟩
        refine go ?_
        refine DB.v rfl rfl rfl hl hl ?_
        refine SV.store rfl rfl cel rfl rfl rfl frz le0 nl ?_
        refine ⟨[], pts b9 (.cells [strV hp, strV x1].toArray 50) :: DevH db sv.1 :: X :: R, ent, ?_⟩
        refine go ?_
        refine ⟨pts b9 (.cells [strV hp, strV x1].toArray 50) :: DevH db sv.1 :: X :: R, ent, ?_⟩
        refine go ?_
        exact ⟨⟨sv.1, hp, x1⟩, trivial, rfl, hst, ent⟩
      · have hst : St9.Ok ⟨sv.1, x0, hp⟩ := by
          refine ⟨z2, ?_, ?_, ?_, ?_⟩
          · dsimp only; rw [z3, List.length_set]; exact hn12
          · dsimp only; rw [z5]; decide
          · dsimp only; rw [z4, getD_setL (by omega), if_neg (by omega)]; exact s0.n0
          · dsimp only; rw [z4, getD_setL (by omega), if_pos hg.symm]
        have hgm : (g : Int) % 2 = 1 := by omega
        refine go ?_
        refine W.drawB #[0, 1, 3, 0, 8, 31, 63] [pts b5 (.cells (hdL g e p q l).toArray 46), pts b11 (.cells (hdL g e p q l).toArray 53)] (pts b9 (.cells [strV x0, strV x1].toArray 50) :: DevH db sv.1 :: X :: R) rfl (by kernel_rfl) (by kernel_rfl) (by kernel_rfl) ent ?_
        refine go ?_
        rw [hgm]
        refine go ?_
        refine DB.callE (vs := [.agg (hdL g e p q l).toArray]) Tryd.func21 rfl rfl rfl rfl hl hl (hPutR _ (hRp hr)) ?_
        rintro v M ⟨rfl, rfl⟩
        refine ⟨[], pts b9 (.cells [strV x0, strV x1].toArray 50) :: DevH db sv.1 :: X :: R, ent, ?_⟩
        refine go ?_
        refine DB.v rfl rfl rfl hl hl ?_
        refine SV.store rfl rfl cel rfl rfl rfl frz le0 nl ?_
        refine ⟨[], pts b9 (.cells [strV x0, strV hp].toArray 50) :: DevH db sv.1 :: X :: R, ent, ?_⟩
        refine go ?_
        refine ⟨pts b9 (.cells [strV x0, strV hp].toArray 50) :: DevH db sv.1 :: X :: R, ent, ?_⟩
        refine go ?_
        exact ⟨⟨sv.1, x0, hp⟩, trivial, rfl, hst, ent⟩
    · have hr : ¬HdR ⟨g, e, p, q, l⟩ 12 := by rw [ht] at z; simpa using z
      have z1 := hSn' hr
      rw [z1]
      dsimp only
      refine go ?_
      exact ⟨⟨d2, x0, x1⟩, trivial, rfl, ⟨s0.c, s0.k, by dsimp only; omega, s0.n0, s0.n1⟩, ent⟩
  clear ht hSc' hSn' hn12 c2' k2' s0 hw0 x0 x1 d2
  rintro ⟨d3, x0, x1⟩ bg7 s3
  have c3 := s3.c
  have k3 := s3.k
  have hx0 := s3.n0
  have hx1 := s3.n1
  dsimp only at c3 k3 hx0 hx1 ⊢
  refine go ?_
  intro b12
  refine go ?_
  refine W.loopS 81129638112375226792131711524864 rfl (fun n : Nat => [(13, .int .i64 (n : Int))]) (fun n => DevH db d3 :: pts b9 (.cells [strV x0, strV x1].toArray 50) :: pts b12 (.cells (wantN (fun k => d3.now.getD k []) 12 n).L.toArray 53) :: X :: R) (fun n => n ≤ 2) (fun n => 2 - n) 0 ⟨rfl, trivial⟩ (Nat.zero_le _) (Ent.app ent) ?_
  intro n bg8 hn
  by_cases hlt : n < 2
  · have hn1 : wantN (fun k => d3.now.getD k []) 12 (n + 1) = pickH (wantN (fun k => d3.now.getD k []) 12 n) (d3.now.getD n []) n 12 := rfl
    obtain rfl | rfl : n = 0 ∨ n = 1 := by omega
    · rw [hx0] at hn1
      have hOf := fun L => r9_Of x0 12 L (by decide)
      generalize wantN (fun k => d3.now.getD k []) 12 0 = wn at *
      obtain ⟨lg, lE, lp, lq, ll⟩ := wn
      have hpk : pickH ⟨lg, lE, lp, lq, ll⟩ x0 0 12 = if hdOk x0 12 = true ∧ (hdOf x0 12).gen % 2 = 0 ∧ lg < (hdOf x0 12).gen then hdOf x0 12 else ⟨lg, lE, lp, lq, ll⟩ := rfl
      rw [hpk] at hn1
      generalize hdOf x0 12 = hh at *
      generalize hdOk x0 12 = hok at *
      obtain ⟨g', e', p', q', l'⟩ := hh
      dsimp only at hn1
      dsimp only [Hd.L] at hOf ⊢
      refine go ?_
      refine WO.callE (vs := [strV x0, .int .i64 12]) Tryd.func22 rfl rfl rfl rfl (hOf _) ?_
      rintro v M ⟨rfl, rfl⟩
      refine go ?_
      intro b14
      cases hok with
      | false =>
        rw [if_neg (by simp)] at hn1
        refine go ?_
        refine ⟨0 + 1, ⟨rfl, trivial⟩, rfl, by omega, by omega, Ent.app ?_⟩
        rw [hn1]
        exact ent
      | true =>
        by_cases hg : g' % 2 = 0
        · by_cases hgt : lg < g'
          · rw [if_pos ⟨rfl, hg, hgt⟩] at hn1
            refine go ?_
            refine ⟨0 + 1, ⟨rfl, trivial⟩, rfl, by omega, by omega, Ent.app ?_⟩
            rw [hn1]
            exact ent
          · rw [if_neg (fun z => hgt z.2.2)] at hn1
            refine go ?_
            refine ⟨0 + 1, ⟨rfl, trivial⟩, rfl, by omega, by omega, Ent.app ?_⟩
            rw [hn1]
            exact ent
        · rw [if_neg (fun z => hg z.2.1)] at hn1
          refine go ?_
          refine ⟨0 + 1, ⟨rfl, trivial⟩, rfl, by omega, by omega, Ent.app ?_⟩
          rw [hn1]
          exact ent
    · rw [hx1] at hn1
      have hOf := fun L => r9_Of x1 12 L (by decide)
      generalize wantN (fun k => d3.now.getD k []) 12 1 = wn at *
      obtain ⟨lg, lE, lp, lq, ll⟩ := wn
      have hpk : pickH ⟨lg, lE, lp, lq, ll⟩ x1 1 12 = if hdOk x1 12 = true ∧ (hdOf x1 12).gen % 2 = 1 ∧ lg < (hdOf x1 12).gen then hdOf x1 12 else ⟨lg, lE, lp, lq, ll⟩ := rfl
      rw [hpk] at hn1
      generalize hdOf x1 12 = hh at *
      generalize hdOk x1 12 = hok at *
      obtain ⟨g', e', p', q', l'⟩ := hh
      dsimp only at hn1
      dsimp only [Hd.L] at hOf ⊢
      refine go ?_
      refine WO.callE (vs := [strV x1, .int .i64 12]) Tryd.func22 rfl rfl rfl rfl (hOf _) ?_
      rintro v M ⟨rfl, rfl⟩
      refine go ?_
      intro b14
      cases hok with
      | false =>
        rw [if_neg (by simp)] at hn1
        refine go ?_
        refine ⟨1 + 1, ⟨rfl, trivial⟩, rfl, by omega, by omega, Ent.app ?_⟩
        rw [hn1]
        exact ent
      | true =>
        by_cases hg : g' % 2 = 1
        · by_cases hgt : lg < g'
          · rw [if_pos ⟨rfl, hg, hgt⟩] at hn1
            refine go ?_
            refine ⟨1 + 1, ⟨rfl, trivial⟩, rfl, by omega, by omega, Ent.app ?_⟩
            rw [hn1]
            exact ent
          · rw [if_neg (fun z => hgt z.2.2)] at hn1
            refine go ?_
            refine ⟨1 + 1, ⟨rfl, trivial⟩, rfl, by omega, by omega, Ent.app ?_⟩
            rw [hn1]
            exact ent
        · rw [if_neg (fun z => hg z.2.1)] at hn1
          refine go ?_
          refine ⟨1 + 1, ⟨rfl, trivial⟩, rfl, by omega, by omega, Ent.app ?_⟩
          rw [hn1]
          exact ent
  · obtain rfl : n = 2 := by omega
    obtain ⟨t1, t2, t3, t4, t5, t6⟩ := loadS_calm c3 (by omega)
    have hL := fun L => h9_Load db d3 L c3.ok
    have hwz := wantN_ok (fun k => d3.now.getD k []) 12 2
    have k3' : ((d3.kept.length : Nat) : Int) = 12 := by omega
    rw [k3'] at t5 t6
    generalize wantN (fun k => d3.now.getD k []) 12 2 = want at *
    generalize loadS d3 = ls at *
    obtain ⟨ld, lh, le⟩ := ls
    dsimp only at t5 t6
    subst t5
    dsimp only at hL
    obtain ⟨wg, we, wp, wq, wl⟩ := lh
    dsimp only [Hd.L] at hL t6 hwz ⊢
    have hwo := fun L => l9_own ⟨wg, we, wp, wq, wl⟩ L
    refine go ?_
    refine WO.callE (vs := [.pointer (some ⟨db, 0, none⟩)]) Tryd.func23 rfl rfl rfl rfl (hL _) ?_
    rintro v M ⟨rfl, rfl⟩
    refine go ?_
    intro b16
    refine go ?_
    refine W.drawB #[0, 1, 0, 7, 15, 31, 63, 31, 159, 415, 1023, 2047, 4095, 8191, 16383, 32767, 65535, 131071, 262143, 524287, 1048575, 2097151, 4194303, 8388607]
      [pts b16 (.cells (hdL wg we wp wq wl).toArray 46), pts b12 (.cells (hdL wg we wp wq wl).toArray 53)] (X :: R) rfl (by kernel_rfl) (by kernel_rfl) (by kernel_rfl) ent ?_
    refine go ?_
    refine DB.callE (vs := [.agg (hdL wg we wp wq wl).toArray]) Tryd.func19 rfl rfl rfl rfl hl hl (hwo _) ?_
    rintro v M ⟨rfl, rfl⟩
    refine ⟨[], X :: R, ent, ?_⟩
    refine go ?_
    refine DB.q (v := .bool true) rfl rfl hl (SV.eqlSt (xs := hdL wg we wp wq wl) (ys := hdL wg we wp wq wl) (b := true) rfl rfl rfl rfl rfl (sEq_self _) eqq) ?_
    by_cases hz : wg = 0
    · rw [if_pos hz] at t6
      subst t6
      refine go ?_
      refine DB.callE (vs := []) Tryd.func24 rfl rfl rfl rfl hl hl (l9_one _) ?_
      rintro v M ⟨rfl, rfl⟩
      refine ⟨[], X :: R, ent, ?_⟩
      refine go ?_
      refine ⟨X :: R, ent, ?_⟩
      refine go ?_
      exact ⟨rfl, [_], ⟨Res.tmp rfl, trivial⟩, X :: R, ent, rfl, rfl⟩
    · rw [if_neg hz] at t6
      subst t6
      refine go ?_
      refine DB.callE (vs := []) Tryd.func24 rfl rfl rfl rfl hl hl (l9_one _) ?_
      rintro v M ⟨rfl, rfl⟩
      refine ⟨[], X :: R, ent, ?_⟩
      refine go ?_
      refine ⟨X :: R, ent, ?_⟩
      refine go ?_
      exact ⟨rfl, [_], ⟨Res.tmp rfl, trivial⟩, X :: R, ent, rfl, rfl⟩
end Go.SL

/- Layer 9: heads: a head that came in. -/
namespace Go.SL
open Go.Proofs
set_option linter.unusedVariables false
set_option maxRecDepth 100000

theorem RdT.hd {w : World} {xs : List Value} (hl : xs.length = 5) (hx : RdT Tryd.prog w 46 xs) : ∃ h : Hd, xs = h.L ∧ h.Fit := by
  obtain ⟨_, hf⟩ := hx.agg Tryd.underlying46
  match xs, hl with
  | [x0, x1, x2, x3, x4], _ =>
    obtain ⟨n0, e0, g0⟩ := (hf 0 _ rfl).u64 Tryd.underlying22
    obtain ⟨n1, e1, g1⟩ := (hf 1 _ rfl).u64 Tryd.underlying22
    obtain ⟨n2, e2, g2⟩ := (hf 2 _ rfl).i64 Tryd.underlying3
    obtain ⟨n3, e3, g3⟩ := (hf 3 _ rfl).u64 Tryd.underlying22
    obtain ⟨n4, e4, g4⟩ := (hf 4 _ rfl).i64 Tryd.underlying3
    have q0 : [x0] = [Value.int .u64 n0] := e0
    have q1 : [x1] = [Value.int .u64 n1] := e1
    have q2 : [x2] = [Value.int .i64 n2] := e2
    have q3 : [x3] = [Value.int .u64 n3] := e3
    have q4 : [x4] = [Value.int .i64 n4] := e4
    injection q0 with q0; injection q1 with q1; injection q2 with q2; injection q3 with q3; injection q4 with q4
    subst q0; subst q1; subst q2; subst q3; subst q4
    exact ⟨⟨n0, n1, n2, n3, n4⟩, rfl, g0, g1, g3, g2, g4⟩
theorem arg_head {H : Type} {enc : TypeId × Value → H} {w : World} {base b0 : Nat} {spare : Nat → Bool} {held : Bool} {r : Reach} {v : Value} {d : DataW H} {ps : List MemPlace}
    (hv : Value.okWide Tryd.prog w r b0 46 v) (h : DataW.Trod enc Tryd.prog w base spare held 46 v d ps) : ∃ h : Hd, v = .agg h.L.toArray ∧ h.Fit := by
  obtain ⟨xs, rfl, hl, hx⟩ := arg_struct Tryd.underlying46 hv h
  obtain ⟨hh, rfl, fit⟩ := RdT.hd (hl.trans (by kernel_rfl)) hx
  exact ⟨hh, rfl, fit⟩
end Go.SL
