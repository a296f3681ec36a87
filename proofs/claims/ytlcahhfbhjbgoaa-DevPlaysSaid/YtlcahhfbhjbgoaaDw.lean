/- Layer 7: a device made; slices repeated and cloned. -/
import Derived.Test.YtlcahhfbhjbgoaaDv
namespace Go.SL
open Go.Proofs
set_option linter.unusedVariables false
set_option maxRecDepth 10000
attribute [local irreducible] W WO SV OW SW Tri Ent Tk Has Src SrcK DA DB RdS Own

theorem u64bits : IntKind.bits .u64 = 64 := rfl
theorem u64_low {x : Nat} (hx : x < 4294967296) : IntKind.wrap .u64 ((((x : Int) % 2 ^ IntKind.bits .u64).toNat &&& ((4294967295 : Int) % 2 ^ IntKind.bits .u64).toNat : Nat) : Int) = x := by
  have e1 : ((x : Int) % 2 ^ IntKind.bits .u64).toNat = x := by rw [u64bits]; omega
  have e2 : ((4294967295 : Int) % 2 ^ IntKind.bits .u64).toNat = 2 ^ 32 - 1 := by rw [u64bits]; decide
  rw [e1, e2, Nat.and_two_pow_sub_one_eq_mod, Nat.mod_eq_of_lt (by omega)]
  exact u64w (by omega) (by omega)
theorem u64_hi (x : Nat) : (x : Int).fdiv (2 ^ (min (32 : Int).toNat (IntKind.bits .u64))) = ((x / 4294967296 : Nat) : Int) := by
  rw [u64bits, show min (32 : Int).toNat 64 = 32 from rfl, Int.fdiv_eq_ediv_of_nonneg _ (by decide)]
  norm_cast
theorem u64_low' (z : Int) {x : Nat} (hx : x < 4294967296) (h : z = x) : IntKind.wrap .u64 (((z % 2 ^ IntKind.bits .u64).toNat &&& ((4294967295 : Int) % 2 ^ IntKind.bits .u64).toNat : Nat) : Int) = x := by subst h; exact u64_low hx
theorem u64_hi' (z : Int) (x : Nat) (h : z = x) : z.fdiv (2 ^ (min (32 : Int).toNat (IntKind.bits .u64))) = ((x / 4294967296 : Nat) : Int) := by subst h; exact u64_hi x
theorem tup2 {k l : IntKind} {a b c d : Int} (h : a = c) (h2 : b = d) : retV [.int k a, .int l b] = .tuple #[.int k c, .int l d] := by rw [h, h2]; rfl
theorem f_Mul64 (x y : Nat) (L : List HP) (hx : x < 4294967296) (hy : y < 4294967296) :
    TriE Try.prog 76 #[.int .u64 x, .int .u64 y] (fun v M => v = .tuple #[.int .u64 0, .int .u64 ((x * y : Nat) : Int)] ∧ M = L) L := by
  have hp : x * y < 4294967296 * 4294967296 := Nat.mul_lt_mul'' hx hy
  refine Tri.of (N := 51) (args := [.int .u64 x, .int .u64 y]) Try.func76 rfl rfl rfl ?_
  refine go ?_
  refine WO.sv rfl ?_
  refine SV.band rfl rfl (u64_low hx) ?_
  refine go ?_
  refine WO.sv rfl ?_
  refine SV.shr rfl rfl (by decide) (u64_hi x) ?_
  rw [Nat.div_eq_of_lt hx]
  refine go ?_
  refine WO.sv rfl ?_
  refine SV.band rfl rfl (u64_low hy) ?_
  refine go ?_
  refine WO.sv rfl ?_
  refine SV.shr rfl rfl (by decide) (u64_hi y) ?_
  rw [Nat.div_eq_of_lt hy]
  refine go ?_
  obtain ⟨p, hpe⟩ : ∃ p, x * y = p := ⟨_, rfl⟩
  have hpi : (x : Int) * y = p := by rw [← hpe]; norm_cast
  rw [hpe] at hp
  rw [hpe, hpi]
  refine WO.sv rfl ?_
  refine SV.shr rfl rfl (by decide) (u64_hi p) ?_
  have hq : p / 4294967296 < 4294967296 := by omega
  generalize p / 4294967296 = q at hq ⊢
  refine go ?_
  refine WO.sv rfl ?_
  refine SV.band rfl rfl (u64_low' _ hq (by omega)) ?_
  refine go ?_
  refine WO.sv rfl ?_
  refine SV.shr rfl rfl (by decide) (u64_hi' _ q (by omega)) ?_
  rw [Nat.div_eq_of_lt hq]
  refine go ?_
  refine WO.sv rfl ?_
  refine SV.shr rfl rfl (by decide) (u64_hi' _ q (by omega)) ?_
  rw [Nat.div_eq_of_lt hq]
  refine go ?_
  refine ⟨rfl, [_, _], ⟨Res.tmp rfl, Res.tmp rfl, trivial⟩, L, ent, ?_, rfl⟩
  refine tup2 ?_ ?_
  · simp
  · exact hpi
theorem f_Mul (x y : Nat) (L : List HP) (hx : x < 4294967296) (hy : y < 4294967296) :
    TriE Try.prog 71 #[.int .u64 x, .int .u64 y] (fun v M => v = .tuple #[.int .u64 0, .int .u64 ((x * y : Nat) : Int)] ∧ M = L) L := by
  refine Tri.of (N := 30) (args := [.int .u64 x, .int .u64 y]) Try.func71 rfl rfl rfl ?_
  refine go ?_
  refine WO.callE (vs := [.int .u64 x, .int .u64 y]) Try.func76 rfl rfl rfl rfl (f_Mul64 x y _ hx hy) ?_
  rintro v M ⟨rfl, rfl⟩
  refine go ?_
  exact ⟨rfl, [_, _], ⟨Res.tmp rfl, Res.tmp rfl, trivial⟩, _, ent, rfl, rfl⟩

theorem lput_rep {v z : Value} (n m k : Nat) (h : n + k ≤ n + m) : lput (List.replicate n v ++ List.replicate m z) n (List.replicate k v) = List.replicate (n + k) v ++ List.replicate (m - k) z := by
  have key : ∀ n, lput (List.replicate n v ++ List.replicate m z) n (List.replicate k v) = List.replicate n v ++ lput (List.replicate m z) 0 (List.replicate k v) := by
    intro n
    induction n with
    | zero => simp
    | succ n ih =>
      cases k with
      | zero => simp [lput_nil]
      | succ k => rw [List.replicate_succ, List.replicate_succ, List.cons_append, lput, ← List.replicate_succ, ih, List.cons_append]
  have key2 : ∀ m k, k ≤ m → lput (List.replicate m z) 0 (List.replicate k v) = List.replicate k v ++ List.replicate (m - k) z := by
    intro m
    induction m with
    | zero => intro k h; have : k = 0 := by omega
              subst this; rfl
    | succ m ih =>
      intro k h
      cases k with
      | zero => simp [lput_nil]
      | succ k => rw [List.replicate_succ, List.replicate_succ, lput, ih k (by omega), List.cons_append]; congr 3; omega
  rw [key, key2 _ _ (by omega), ← List.append_assoc, List.replicate_append_replicate]
theorem sl_Repeat (a c n : Nat) (s : Byt) (L : List HP) (h1 : 1 ≤ n) (h2 : n ≤ 100000) (r : RdS 1 (some ⟨a, 0, none⟩) 1 [strV s] L) :
    TriE Try.prog 62 #[.slice (some ⟨a, 0, none⟩) 1 c, .int .i64 n] (fun v M => ∃ b : Nat, v = .slice (some ⟨b, 0, none⟩) n n ∧ M = Own 9 1 (.slice (some ⟨b, 0, none⟩) n n) n (List.replicate n (strV s)) :: L) L := by
  refine Tri.of (N := 48) (args := [.slice (some ⟨a, 0, none⟩) 1 c, .int .i64 n]) Try.func62 rfl rfl rfl ?_
  refine go ?_
  refine WO.callE (vs := [.int .u64 (1 : Nat), .int .u64 n]) Try.func71 rfl rfl rfl rfl (f_Mul 1 n _ (by decide) (by omega)) ?_
  rintro v M ⟨rfl, hM⟩
  rw [hM, Nat.one_mul]
  refine go ?_
  refine WO.sv rfl ?_
  refine SV.makeSlice rfl (m := n) rfl (by omega) (by omega) ?_
  intro b
  refine go ?_
  refine WO.sv rfl ?_
  refine SV.copyP rfl rfl (RdS.srcK (RdS.cons r)) rfl (by simp) (.inl (Nat.le_refl _)) (l' := List.replicate 1 (strV s) ++ List.replicate (n - 1) (strV [])) ?_ (by simp; omega) rfl ?_
  · rw [show min 1 n = 1 by omega]
    simp only [Nat.one_mul, List.take_succ_cons, List.take_zero, List.length_cons, List.length_nil, List.drop_replicate]
    rfl
  rw [show min 1 n = 1 by omega]
  refine go ?_
  refine W.loopS 140720308486400 rfl (fun k : Nat => [(8, .int .i64 k)]) (fun k => pts b (.cells (List.replicate k (strV s) ++ List.replicate (n - k) (strV [])).toArray 9) :: L) (fun k => 1 ≤ k ∧ k ≤ n) (fun k => n - k) 1 ⟨rfl, trivial⟩ ⟨by omega, by omega⟩ (Ent.app ent) ?_
  intro k bg ⟨hk1, hk2⟩
  refine go ?_
  refine WO.sv rfl ?_
  refine SV.lssC rfl rfl ?_ ?_
  · intro hlt
    refine go ?_
    have hlen : (List.replicate k (strV s) ++ List.replicate (n - k) (strV [])).length = n := by simp; omega
    refine W.drawB #[0, 0, 0, 6, 0, 0, 48, 126, 255, 511] [] (pts b (.cells (List.replicate k (strV s) ++ List.replicate (n - k) (strV [])).toArray 9) :: L) rfl (by kernel_rfl) (by kernel_rfl) (by kernel_rfl) (Ent.refl _) ?_
    refine go ?_
    refine DB.q (v := .slice (some ⟨b, k, none⟩) (n - k) (n - k)) rfl rfl hl (SV.cut rfl (cutAt.of rfl rfl) rfl hk2 (Nat.le_refl _) fun off' ho => ?_) ?_
    · rw [ho (.inl (by omega)), Nat.zero_add, Nat.mul_one]; exact eqq
    refine go ?_
    refine DB.q (v := .slice (some ⟨b, 0, none⟩) k n) rfl rfl hl (SV.cut rfl rfl (cutAt.of rfl rfl) (Nat.zero_le _) hk2 fun off' ho => ?_) ?_
    · rw [ho (.inr rfl)]; exact eqq
    refine go ?_
    refine DB.v rfl rfl rfl hl hl ?_
    have hsub : lsub (List.replicate k (strV s) ++ List.replicate (n - k) (strV [])) 0 (k * 1) = List.replicate k (strV s) := by
      rw [Nat.mul_one, lsub_eq, List.drop_zero, List.take_left' (by simp)]
    have hsrc := SrcK.row (P := Try.prog) (sz := 1) (b := b) (off := 0) (m := k) (cap := n) (l := List.replicate k (strV s) ++ List.replicate (n - k) (strV [])) (T := 9) (fr := (0, 0)) (L := pts b (.cells (List.replicate k (strV s) ++ List.replicate (n - k) (strV [])).toArray 9) :: L) (by rw [hlen]; omega)
    rw [hsub] at hsrc
    have hput : lput (List.replicate k (strV s) ++ List.replicate (n - k) (strV [])) k ((List.replicate k (strV s)).take (min k (n - k) * 1)) = List.replicate (k + min k (n - k)) (strV s) ++ List.replicate (n - (k + min k (n - k))) (strV []) := by
      rw [List.take_replicate, show min (min k (n - k) * 1) k = min k (n - k) by omega, lput_rep _ _ _ (by omega), show n - k - min k (n - k) = n - (k + min k (n - k)) by omega]
    refine SV.copy rfl rfl hsrc (by simp [isCell, strV]) (by rw [hlen]; omega) (.inl (Nat.le_refl _)) ?_ ?_
    · rw [hput]
      refine ⟨[], _, ent, ?_⟩
      refine go ?_
      refine ⟨_, Ent.refl _, ?_⟩
      refine go ?_
      refine ⟨k + min k (n - k), ⟨?_, trivial⟩, rfl, ⟨by omega, by omega⟩, by omega, fun _ _ x => x⟩
      show Value.int .i64 _ = _
      congr 1
    · intro e
      rw [List.take_replicate, List.replicate_eq_nil_iff] at e
      omega
  · intro hlt
    obtain rfl : k = n := by omega
    refine go ?_
    refine ⟨rfl, [_], ⟨Res.tmp rfl, trivial⟩, _, ?_, b, rfl, rfl⟩
    simp only [Nat.sub_self, List.replicate_zero, List.append_nil]
    exact Ent.trans ent (ent_own (by simp))
end Go.SL
