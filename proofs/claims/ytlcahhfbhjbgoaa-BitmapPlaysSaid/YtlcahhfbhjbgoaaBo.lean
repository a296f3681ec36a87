/- Layer 11: what its functions do (3). -/
import Derived.Test.YtlcahhfbhjbgoaaBk
namespace Go.SL
open Go.Proofs
set_option linter.unusedVariables false
set_option maxRecDepth 10000

theorem lput_zero : ∀ (l xs : List Value), xs.length ≤ l.length → lput l 0 xs = xs ++ l.drop xs.length
  | l, [], _ => by cases l <;> rfl
  | [], x :: xs, h => by simp at h
  | a :: l, x :: xs, h => by
    have := lput_zero l xs (by simpa using h)
    simp only [lput, List.length_cons, List.drop_succ_cons, List.cons_append]
    rw [← this]
attribute [local irreducible] W WO SV OW SW Tri Ent Tk Has Src SrcK DA DB RdS Own

section
variable {P : Program} {ro : Option Nat} {f : Frm} {L : List HP} {d : Option Nat} {ty : TypeId} {ps : String} {af : Array Edge} {gu : Option (Nat × Bool)} {K : Value → List HP → Prop}
theorem SV.copyP {tS tX e sz : Nat} {x y : Operand} {v : Value} {b n cap m : Nat} {l ys l' : List Value} {T : TypeId} {fr : Nat × Nat} {M : Obj → List HP} (hx : f.ev x = .slice (some ⟨b, 0, none⟩) n cap) (hy : f.ev y = v) [he : TE P tS e sz] (src : SrcK P sz v m ys L) (hc : ys.all isCell = true)
    [r : Wr L b (.cells l.toArray T fr) M] [rm : WrM M b] (hn : n * sz ≤ l.length) (hf : fr.2 ≤ fr.1 ∨ n * sz ≤ fr.1) (hl : ys.take ((min m n) * sz) ++ l.drop ((ys.take ((min m n) * sz)).length) = l') (hle : (ys.take ((min m n) * sz)).length ≤ l.length)
    (hM : M (.cells l.toArray T fr) = L) (h1 : K (.int .i64 (min m n : Nat)) (M (.cells l'.toArray T fr))) : SV P ro ⟨d, .call { callee := .builtin .copy, args := #[x, y], argTypes := #[tS, tX] }, ty, ps, af, gu⟩ f K L := by
  subst hl
  refine SV.copy hx hy src hc (by omega) (by omega) ?_ ?_
  · rw [lput_zero _ _ hle]; exact h1
  · intro e
    rw [e] at h1
    simp only [List.nil_append, List.length_nil, List.drop_zero, hM] at h1
    exact h1
end

theorem bm_Of (a : Option Addr) (c : Nat) (src : List Nat) (n : Int) (L : List HP) (h0 : src.length ≤ 1000000) (ok : OkB src) (r : RdS 1 a src.length (src.map u8) L) :
    TriE Try.prog 10 #[.slice a src.length c, .int .i64 n]
      (fun v M => ∃ a' c' bs, bs.length = (clip n + 7) / 8 ∧ OkB bs ∧ (∀ k, bitB bs k = (decide (k < clip n) && bitB src k)) ∧ v = BV a' c' bs (clip n) ∧ SomeA a' bs.length ∧ M = OB a' c' bs :: L) L := by
  refine Tri.of (N := 32) (args := [.slice a src.length c, .int .i64 n]) Try.func10 rfl rfl rfl ?_
  refine go ?_
  intro b4
  refine go ?_
  refine WO.callE (vs := [.int .i64 n]) Try.func19 rfl rfl rfl rfl (bm_NewP n _) ?_
  rintro v M ⟨b, rfl, rfl⟩
  have hN : clip n ≤ 4096 := by unfold clip; omega
  refine go ?_
  intro b5
  refine go ?_
  generalize hm : (clip n + 7) / 8 = m
  refine WO.sv rfl ?_
  refine SV.copyP rfl rfl (RdS.srcK (RdS.cons (RdS.cons (RdS.cons r)))) (by simp [u8, isCell]) (by simp) (.inl (Nat.le_refl _)) (l' := (src.take m ++ List.replicate (m - src.length) 0).map u8) ?_ (by simp; omega) rfl ?_
  · simp only [Nat.mul_one, List.map_append, List.map_take, List.map_replicate, List.drop_replicate, List.length_take, List.length_map]
    rw [show min (min src.length m) src.length = min src.length m by omega, show m - min src.length m = m - src.length by omega]
    congr 1
    by_cases h : src.length ≤ m
    · rw [Nat.min_eq_left h, List.take_of_length_le (by simp), List.take_of_length_le (by simpa using h)]
    · rw [Nat.min_eq_right (by omega)]
  have hcl : (src.take m ++ List.replicate (m - src.length) 0).length = m := by simp; omega
  have hco : OkB (src.take m ++ List.replicate (m - src.length) 0) := by
    intro x hx
    rcases List.mem_append.1 hx with h | h
    · exact ok x (List.mem_of_mem_take h)
    · have := (List.mem_replicate.1 h).2; omega
  have hcb : ∀ k, k / 8 < m → bitB (src.take m ++ List.replicate (m - src.length) 0) k = bitB src k := by
    intro k hk
    unfold bitB
    congr 1
    simp only [List.getD_eq_getElem?_getD, List.getElem?_append, List.getElem?_take, List.getElem?_replicate, List.length_take]
    by_cases h : k / 8 < src.length
    · rw [if_pos (by omega), if_pos hk]
    · rw [if_neg (by omega), List.getElem?_eq_none (by omega)]; split <;> rfl
  have hcz : ∀ k, m ≤ k / 8 → bitB (src.take m ++ List.replicate (m - src.length) 0) k = false := by
    intro k hk
    unfold bitB
    rw [List.getD_eq_getElem?_getD, List.getElem?_eq_none (by omega)]
    simp
  generalize src.take m ++ List.replicate (m - src.length) 0 = cur at hcl hco hcb hcz ⊢
  refine go ?_
  refine WO.sv rfl ?_
  refine SV.gtrC rfl rfl ?_ ?_
  · intro h1
    refine go ?_
    refine W.drawA rfl (by kernel_rfl) (by kernel_rfl) ?_
    refine go ?_
    have hx := hco.get (m - 1)
    have e8 : ((clip n : Int) % 8).toNat = clip n % 8 := by omega
    have hp := pow_lt (clip n % 8) (by omega)
    have hp0 : 0 < 2 ^ (clip n % 8) := Nat.two_pow_pos _
    refine DA.q (v := u8 (cur.getD (m - 1) 0)) rfl rfl (SV.load rfl (by rw [lget_eq, show 0 + ((m : Int) - 1).toNat * 1 = m - 1 by omega]; exact getu (by omega)) eqq) ?_
    refine go ?_
    refine DA.q (v := u8 (2 ^ (clip n % 8))) rfl rfl (SV.shl rfl rfl (by omega) (by rw [u8_shl1 (by omega) (by omega), e8]) eqq) ?_
    refine DA.q (v := u8 (2 ^ (clip n % 8) - 1)) rfl rfl (SV.sub rfl rfl (by generalize 2 ^ (clip n % 8) = y at *; rw [u8w (by omega) (by omega)]; omega) eqq) ?_
    refine DA.q (v := u8 (cur.getD (m - 1) 0 &&& (2 ^ (clip n % 8) - 1))) rfl rfl (SV.band rfl rfl (u8_and _ _ rfl rfl hx (by omega)) eqq) ?_
    refine go ?_
    refine DA.v rfl rfl rfl ?_
    refine SV.storeS (v := u8 (cur.getD (m - 1) 0 &&& (2 ^ (clip n % 8) - 1))) rfl rfl rfl (.inl (Nat.le_refl _)) (by simp; omega) ?_
    rw [show 0 + ((m : Int) - 1).toNat * 1 = m - 1 by omega, map_set_u8]
    have hl2 : (cur.set (m - 1) (cur.getD (m - 1) 0 &&& (2 ^ (clip n % 8) - 1))).length = m := by rw [List.length_set, hcl]
    have ho2 : OkB (cur.set (m - 1) (cur.getD (m - 1) 0 &&& (2 ^ (clip n % 8) - 1))) := okB_set hco _ (by have := Nat.and_le_left (n := cur.getD (m - 1) 0) (m := 2 ^ (clip n % 8) - 1); omega)
    have hb2 : ∀ k, bitB (cur.set (m - 1) (cur.getD (m - 1) 0 &&& (2 ^ (clip n % 8) - 1))) k = (decide (k < clip n) && bitB src k) := by
      intro k
      rw [bitB_set (by omega)]
      by_cases e : k / 8 = m - 1
      · rw [if_pos e, Nat.testBit_and, Nat.testBit_two_pow_sub_one]
        have h2 := hcb k (by omega)
        unfold bitB at h2 ⊢
        rw [← e, h2, Bool.and_comm]
        congr 1
        exact decide_eq_decide.2 (by omega)
      · rw [if_neg e]
        by_cases h : k / 8 < m
        · rw [hcb k h, decide_eq_true (by omega), Bool.true_and]
        · rw [hcz k (by omega), decide_eq_false (by omega), Bool.false_and]
    generalize cur.set (m - 1) (cur.getD (m - 1) 0 &&& (2 ^ (clip n % 8) - 1)) = fin at hl2 ho2 hb2 ⊢
    refine go ?_
    refine ⟨rfl, [_], ⟨Res.cell rfl le0 nl, trivial⟩, OB (some ⟨b, 0, none⟩) m fin :: L, ?_, some ⟨b, 0, none⟩, m, fin, hl2, ho2, hb2, ?_, fun _ => ⟨b, rfl⟩, rfl⟩
    · refine Ent.trans (B := pts b (.cells (fin.map u8).toArray 5) :: L) ent ?_
      have := ent_own (E := 5) (sz := 1) (n := m) (b := b) (xs := fin.map u8) (L := L) (by simp [hl2])
      simp only [OB, hl2]; exact this
    · simp only [BV, hl2]; rfl
  · intro h1
    refine go ?_
    have hb2 : ∀ k, bitB cur k = (decide (k < clip n) && bitB src k) := by
      intro k
      by_cases h : k / 8 < m
      · rw [hcb k h, decide_eq_true (by omega), Bool.true_and]
      · rw [hcz k (by omega), decide_eq_false (by omega), Bool.false_and]
    refine ⟨rfl, [_], ⟨Res.cell rfl le0 nl, trivial⟩, OB (some ⟨b, 0, none⟩) m cur :: L, ?_, some ⟨b, 0, none⟩, m, cur, hcl, hco, hb2, ?_, fun _ => ⟨b, rfl⟩, rfl⟩
    · refine Ent.trans (B := pts b (.cells (cur.map u8).toArray 5) :: L) ent ?_
      have := ent_own (E := 5) (sz := 1) (n := m) (b := b) (xs := cur.map u8) (L := L) (by simp [hcl])
      simp only [OB, hcl]; exact this
    · simp only [BV, hcl]; rfl
end Go.SL
