/- Layer 8: marks: sealing a block. -/
import Derived.Test.YtlcahhfbhjbgoaaDoorMe
namespace Go.SL
open Go.Proofs
set_option linter.unusedVariables false
set_option maxRecDepth 10000
set_option maxHeartbeats 4000000

theorem lput_mid (C : List Value) : ∀ (A B B' : List Value), B'.length = B.length → lput (A ++ (B ++ C)) A.length B' = A ++ (B' ++ C)
  | [], [], [], _ => by cases C <;> rfl
  | [], x :: B, y :: B', h => by
    have ih := lput_mid C [] B B' (by simpa using h)
    simp only [List.nil_append, List.length_nil, List.cons_append, lput] at ih ⊢
    rw [ih]
  | a :: A, B, B', h => by
    have ih := lput_mid C A B B' h
    cases B' with
    | nil =>
      have : B = [] := List.eq_nil_of_length_eq_zero h.symm
      subst this
      rfl
    | cons y B' =>
      simp only [List.cons_append, List.length_cons, lput]
      rw [ih]; rfl
theorem set_two (A : List Value) (h : A.length = 17) (x y z : Value) : ((A ++ List.replicate 239 z).set (0 + ((17 : Nat) : Int).toNat * 1) x).set (0 + (((17 : Nat) : Int) + 1).toNat * 1) y = A ++ ([x, y] ++ List.replicate 237 z) := by
  show ((A ++ List.replicate 239 z).set 17 x).set 18 y = _
  rw [List.set_append_right _ _ (by omega), List.set_append_right _ _ (by omega), h]
  rfl
section
variable {P : Program} {ro : Option Nat} {f : Frm} {L : List HP} {d : Option Nat} {ty : TypeId} {ps : String} {af : Array Edge} {gu : Option (Nat × Bool)} {K : Value → List HP → Prop}
/-- A copy into the middle of a row. -/
theorem SV.copyM {tS tX e : Nat} {x y : Operand} {v : Value} {b off n cap m : Nat} {l ys : List Value} {T : TypeId} {fr : Nat × Nat} {M : Obj → List HP} (A B C : List Value) (hx : f.ev x = .slice (some ⟨b, off, none⟩) n cap) (hy : f.ev y = v) [he : TE P tS e 1] (src : SrcK P 1 v m ys L) (hc : ys.all isCell = true)
    [r : Wr L b (.cells l.toArray T fr) M] [rm : WrM M b] (hf : fr.2 ≤ fr.1 ∨ off + n ≤ fr.1) (hM : M (.cells l.toArray T fr) = L) (hl' : l = A ++ (B ++ C)) (ho : off = A.length) (hm : m = B.length) (hmn : m ≤ n) (hn : off + n ≤ l.length)
    (h : K (.int .i64 (m : Nat)) (M (.cells (A ++ (ys ++ C)).toArray T fr))) : SV P ro ⟨d, .call { callee := .builtin .copy, args := #[x, y], argTypes := #[tS, tX] }, ty, ps, af, gu⟩ f K L := by
  have hys := src.2.1
  have e1 : ys.take (min m n * 1) = ys := List.take_of_length_le (by rw [hys, Nat.min_eq_left hmn]; omega)
  refine SV.copy hx hy src hc (by omega) (by rw [Nat.mul_one]; exact hf) ?_ ?_
  · rw [e1, Nat.min_eq_left hmn, hl', ho, lput_mid C A B ys (by omega)]; exact h
  · intro e0
    rw [e1] at e0
    subst e0
    have : B = [] := List.eq_nil_of_length_eq_zero (by simp at hys; omega)
    subst this
    rw [Nat.min_eq_left hmn]
    rw [List.nil_append] at h
    rw [List.nil_append] at hl'
    rw [← hl', hM] at h
    exact h
end
attribute [local irreducible] W WO SV OW SW Tri Ent Tk Has Src SrcK DA DB RdS Own

/-- A sealed block. -/
def sealB (k : UInt8) (e s : Nat) (b : Byt) : Byt := mkB k e s ++ ([0, UInt8.ofNat b.length] ++ (b ++ (List.replicate (220 - b.length) 0 ++ mkB k e s)))
theorem sealB_len {k : UInt8} {e s : Nat} {b : Byt} (h : b.length ≤ 220) : (sealB k e s b).length = 256 := by simp [sealB]; omega
abbrev zr (n : Nat) : List Value := List.replicate n (u8V 0)
theorem mk_Seal (k : UInt8) (e s : Nat) (a : Option Addr) (c : Nat) (b : Byt) (L : List HP) (h1 : e < 18446744073709551616) (h2 : s < 18446744073709551616) (hb : b.length ≤ 9223372036854775807) (r : RdS 1 a b.length (b.map u8V) L) :
    TriE Tryd.prog 8 #[.agg (mkL k e s).toArray, .slice a b.length c] (fun v M =>
      (mkR k = false ∧ v = .tuple #[.slice none 0 0, .int .i64 2] ∧ M = L) ∨ (mkR k = true ∧ 220 < b.length ∧ v = .tuple #[.slice none 0 0, .int .i64 3] ∧ M = L) ∨
      (mkR k = true ∧ b.length ≤ 220 ∧ ∃ a' c', v = .tuple #[.slice a' (sealB k e s b).length c', .int .i64 0] ∧ SomeA a' (sealB k e s b).length ∧ (sealB k e s b).length ≤ c' ∧ M = OS a' c' (sealB k e s b) :: L)) L := by
  refine Tri.of (N := 45) (args := [.agg (mkL k e s).toArray, .slice a b.length c]) Tryd.func8 rfl rfl rfl ?_
  refine go ?_
  intro b2
  refine go ?_
  refine WO.callE (vs := [.agg (mkL k e s).toArray]) Tryd.func25 rfl rfl rfl rfl (mk_right k e s _) ?_
  rintro v M ⟨rfl, rfl⟩
  cases hk : mkR k
  · refine go ?_
    exact ⟨rfl, [_, _], ⟨Res.tmp rfl, Res.tmp rfl, trivial⟩, L, ent, .inl ⟨rfl, rfl, rfl⟩⟩
  by_cases hbig : 220 < b.length
  · refine go ?_
    exact ⟨rfl, [_, _], ⟨Res.tmp rfl, Res.tmp rfl, trivial⟩, L, ent, .inr (.inl ⟨rfl, hbig, rfl, rfl⟩)⟩
  refine go ?_
  refine WO.sv rfl ?_
  refine SV.makeSlice rfl (m := 256) rfl (by decide) (by decide) ?_
  intro b1
  refine go ?_
  refine WO.callE (vs := [.agg (mkL k e s).toArray]) Tryd.func26 rfl rfl rfl rfl (mk_lay k e s _ h1 h2) ?_
  rintro v M ⟨a3, c3, rfl, s3, rfl⟩
  have hml := mkB_len k e s
  have hsb : sealB k e s b = mkB k e s ++ ([0, UInt8.ofNat b.length] ++ (b ++ (List.replicate (220 - b.length) 0 ++ mkB k e s))) := rfl
  have hsl := sealB_len (k := k) (e := e) (s := s) (b := b) (by omega)
  have hlay := fun R => mk_lay k e s R h1 h2
  generalize sealB k e s b = sb at *
  generalize mkB k e s = mb at *
  refine WO.sv rfl ?_
  refine SV.copyM [] (zr 17) (zr 239) rfl rfl (RdS.srcK (OS.rd tk s3)) (by simp [u8V, isCell]) (.inl (Nat.le_refl _)) rfl ?_ rfl (by simp [hml]) (by omega) (by simp) ?_
  · exact (List.replicate_append_replicate (n := 17) (m := 239) (a := u8V 0)).symm
  rw [List.nil_append, hml]
  refine go ?_
  refine WO.sv rfl ?_
  refine SV.shr (z := 0) rfl rfl (by decide) (by show (b.length : Int).fdiv 256 = 0; rw [Int.fdiv_eq_ediv_of_nonneg _ (by decide)]; omega) ?_
  refine go ?_
  refine WO.sv rfl ?_
  refine SV.storeS (v := u8V 0) rfl rfl rfl (.inl (Nat.le_refl _)) (by simp [hml]) ?_
  refine go ?_
  refine WO.sv rfl ?_
  refine SV.storeS (v := .int .u8 (b.length : Nat)) rfl rfl rfl (.inl (Nat.le_refl _)) (by simp [hml]) ?_
  rw [show Value.int .u8 ((b.length : Nat) : Int) = u8V (UInt8.ofNat b.length) from by
    show _ = Value.int .u8 ((UInt8.ofNat b.length).toNat : Int)
    rw [UInt8.toNat_ofNat', Nat.mod_eq_of_lt (by omega)]]
  rw [show ((List.map u8V mb ++ zr 239).set (0 + ((17 : Nat) : Int).toNat * 1) (u8V 0)).set (0 + (((17 : Nat) : Int) + 1).toNat * 1) (u8V (UInt8.ofNat b.length)) = List.map u8V (mb ++ [0, UInt8.ofNat b.length]) ++ (zr b.length ++ zr (237 - b.length)) from by
    rw [List.replicate_append_replicate, show b.length + (237 - b.length) = 237 by omega, set_two _ (by simp [hml])]
    simp only [List.map_append, List.map_cons, List.map_nil, List.append_assoc]]
  refine go ?_
  refine WO.sv rfl ?_
  refine SV.cut (l := 19) (h := 256) rfl (cutAt.of rfl rfl) rfl (by decide) (by decide) ?_
  intro off' ho
  rw [ho (.inl (by decide))]
  refine go ?_
  refine WO.sv rfl ?_
  refine SV.copyM (List.map u8V (mb ++ [0, UInt8.ofNat b.length])) (zr b.length) (zr (237 - b.length)) rfl rfl (RdS.srcK rds) (by simp [u8V, isCell]) (.inl (Nat.le_refl _)) rfl rfl (by simp [hml]) (by simp) (by omega) (by simp [hml]; omega) ?_
  rw [show List.map u8V (mb ++ [0, UInt8.ofNat b.length]) ++ (List.map u8V b ++ zr (237 - b.length)) = List.map u8V (mb ++ [0, UInt8.ofNat b.length] ++ b ++ List.replicate (220 - b.length) 0) ++ (zr 17 ++ []) from by
    rw [show zr (237 - b.length) = zr (220 - b.length) ++ zr 17 by rw [List.replicate_append_replicate]; congr 1; omega]
    simp only [List.map_append, List.map_replicate, List.append_assoc, List.append_nil]]
  have hgl : (mb ++ [0, UInt8.ofNat b.length] ++ b ++ List.replicate (220 - b.length) 0).length = 239 := by simp [hml]; omega
  have hse : mb ++ [0, UInt8.ofNat b.length] ++ b ++ List.replicate (220 - b.length) 0 ++ mb = sb := by rw [hsb]; simp
  generalize mb ++ [0, UInt8.ofNat b.length] ++ b ++ List.replicate (220 - b.length) 0 = gb at *
  refine go ?_
  refine W.drawB #[0, 1, 0, 4, 15] [pts b2 (.cells [u8V k, .int .u64 e, .int .u64 s].toArray 24)] (pts b1 (.cells (List.map u8V gb ++ (zr 17 ++ [])).toArray 5) :: L) rfl (by kernel_rfl) (by kernel_rfl) (by kernel_rfl) ent ?_
  refine go ?_
  refine DB.q (v := .slice (some ⟨b1, 239, none⟩) 17 17) rfl rfl hl ?_ ?_
  · refine SV.cut (l := 239) (h := 256) rfl (cutAt.of rfl rfl) rfl (by decide) (by decide) ?_
    intro off' ho
    rw [ho (.inl (by decide))]
    exact eqq
  refine go ?_
  refine DB.callE (vs := [.agg (mkL k e s).toArray]) Tryd.func26 rfl rfl rfl rfl hl hl (hlay _) ?_
  rintro v M ⟨a4, c4, rfl, s4, rfl⟩
  refine ⟨[], pts b1 (.cells (List.map u8V gb ++ (zr 17 ++ [])).toArray 5) :: OS a4 c4 mb :: L, ent, ?_⟩
  refine go ?_
  refine DB.v rfl rfl rfl hl hl ?_
  refine SV.copyM (List.map u8V gb) (zr 17) [] rfl rfl (RdS.srcK (OS.rd tk s4)) (by simp [u8V, isCell]) (.inl (Nat.le_refl _)) rfl rfl (by simp [hgl]) (by simp [hml]) (by omega) (by simp [hgl]) ?_
  rw [show List.map u8V gb ++ (List.map u8V mb ++ []) = List.map u8V sb by rw [← hse, List.append_nil, List.map_append]]
  refine ⟨[], pts b1 (.cells (List.map u8V sb).toArray 5) :: L, ent, ?_⟩
  refine go ?_
  refine ⟨pts b1 (.cells (List.map u8V sb).toArray 5) :: L, ent, ?_⟩
  refine go ?_
  refine ⟨rfl, [_, _], ⟨Res.tmp rfl, Res.tmp rfl, trivial⟩, OS (some ⟨b1, 0, none⟩) 256 sb :: L, ?_, .inr (.inr ⟨rfl, by omega, some ⟨b1, 0, none⟩, 256, by rw [hsl]; rfl, fun _ => ⟨b1, rfl⟩, by omega, rfl⟩)⟩
  refine Ent.trans (ent_own (E := 5) (sz := 1) (n := 256) (by simp [hsl])) ?_
  unfold OS
  rw [hsl]
  exact Ent.refl _
end Go.SL
