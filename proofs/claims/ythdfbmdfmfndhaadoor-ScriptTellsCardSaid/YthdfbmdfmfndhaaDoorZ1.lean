/- Layer 32 (script), the plain law: numbers, texts, words. -/
import Derived.KernelRfl
import Derived.Lib.IndexLaws
import Derived.Test.YthdfbmdfmfndhaaDoorSlG
import Derived.Test.YthdfbmdfmfndhaaDoorSlJ
import Derived.Test.YthdfbmdfmfndhaaDoorSlN
import Derived.Test.YthdfbmdfmfndhaaDoorSlO
import Derived.Test.YthdfbmdfmfndhaaDoorSlP
import Derived.Test.YthdfbmdfmfndhaaDoorSlR
import Derived.Test.YthdfbmdfmfndhaaDoorTy
namespace Go.SL
set_option linter.unusedVariables false
set_option linter.unusedSimpArgs false
set_option linter.unusedSectionVars false

abbrev BL := List UInt8
def dgt (n : Nat) : UInt8 := UInt8.ofNat (48 + n)
theorem dgt_nat {n : Nat} (h : n < 10) : (dgt n).toNat = 48 + n := by
  unfold dgt
  rw [UInt8.toNat_ofNat']
  omega
def dg (n : Nat) : BL := if h : n < 10 then [dgt n] else dg (n / 10) ++ [dgt (n % 10)]
termination_by n
theorem dg_lt {n : Nat} (h : n < 10) : dg n = [dgt n] := by unfold dg; rw [dif_pos h]
theorem dg_ge {n : Nat} (h : ¬n < 10) : dg n = dg (n / 10) ++ [dgt (n % 10)] := by
  conv => lhs; unfold dg
  rw [dif_neg h]
theorem dg_ne (n : Nat) : dg n ≠ [] := by
  by_cases h : n < 10
  · rw [dg_lt h]; simp
  · rw [dg_ge h]; simp
def isD (c : UInt8) : Prop := 48 ≤ c.toNat ∧ c.toNat ≤ 57
theorem isD_dgt {n : Nat} (h : n < 10) : isD (dgt n) := by unfold isD; rw [dgt_nat h]; omega
theorem dgt_isD {c : UInt8} (h : isD c) : dgt (c.toNat - 48) = c := by
  obtain ⟨h1, h2⟩ := h
  apply UInt8.toNat_inj.1
  rw [dgt_nat (by omega)]; omega
def val (s : BL) : Nat := s.foldl (fun v c => v * 10 + (c.toNat - 48)) 0
theorem val_snoc (s : BL) (c : UInt8) : val (s ++ [c]) = val s * 10 + (c.toNat - 48) := by
  unfold val; rw [List.foldl_append]; rfl
theorem val_le (s r : BL) : val s ≤ val (s ++ r) := by
  induction r generalizing s with
  | nil => rw [List.append_nil]; exact Nat.le_refl _
  | cons c r ih =>
    have h1 := ih (s ++ [c])
    have h2 := val_snoc s c
    rw [List.append_assoc] at h1
    simp only [List.singleton_append] at h1
    omega
theorem val_dg (n : Nat) : val (dg n) = n := by
  induction n using Nat.strongRecOn with
  | ind n ih =>
    by_cases h : n < 10
    · rw [dg_lt h]
      show 0 * 10 + ((dgt n).toNat - 48) = n
      rw [dgt_nat h]; omega
    · rw [dg_ge h, val_snoc, ih (n / 10) (by omega), dgt_nat (by omega)]; omega
theorem dg_inj {n m : Nat} (h : dg n = dg m) : n = m := by rw [← val_dg n, h, val_dg]
theorem dg_digit (n : Nat) : ∀ c ∈ dg n, isD c := by
  induction n using Nat.strongRecOn with
  | ind n ih =>
    by_cases h : n < 10
    · rw [dg_lt h]; intro c hc; rw [List.mem_singleton.1 hc]; exact isD_dgt h
    · rw [dg_ge h]
      intro c hc
      rcases List.mem_append.1 hc with hc | hc
      · exact ih (n / 10) (by omega) c hc
      · rw [List.mem_singleton.1 hc]; exact isD_dgt (by omega)
theorem dg_head (n : Nat) : ∀ c r, dg n = c :: r → c.toNat = 48 → r = [] := by
  induction n using Nat.strongRecOn with
  | ind n ih =>
    intro c r e hc
    by_cases h : n < 10
    · rw [dg_lt h] at e; injection e with _ e; exact e.symm
    · rw [dg_ge h] at e
      cases hd : dg (n / 10) with
      | nil => exact absurd hd (dg_ne _)
      | cons c' r' =>
        rw [hd] at e
        injection e with e1 e2
        subst e1
        have h1 := ih (n / 10) (by omega) c' r' hd hc
        subst h1
        by_cases h2 : n / 10 < 10
        · rw [dg_lt h2] at hd
          injection hd with h3 _
          rw [← h3, dgt_nat h2] at hc
          omega
        · rw [dg_ge h2] at hd
          have := congrArg List.length hd
          have h4 : (dg (n / 10 / 10)).length ≠ 0 := fun z => dg_ne _ (List.length_eq_zero_iff.1 z)
          simp at this
          exact absurd this (dg_ne _)
theorem dg_val (s : BL) : (∀ c ∈ s, isD c) → s ≠ [] → (∀ c r, s = c :: r → c.toNat = 48 → r = []) → dg (val s) = s := by
  induction hn : s.length generalizing s with
  | zero => intro _ h; exact absurd (List.length_eq_zero_iff.1 hn) h
  | succ k ih =>
    intro hd hne hz
    obtain ⟨t, c, rfl⟩ : ∃ t c, s = t ++ [c] := ⟨s.dropLast, s.getLast hne, (List.dropLast_concat_getLast hne).symm⟩
    have hc : isD c := hd c (by simp)
    have hcl : c.toNat - 48 < 10 := by unfold isD at hc; omega
    rw [val_snoc]
    cases t with
    | nil =>
      show dg (0 * 10 + (c.toNat - 48)) = [c]
      rw [show 0 * 10 + (c.toNat - 48) = c.toNat - 48 by omega, dg_lt hcl, dgt_isD hc]
    | cons a r =>
      have h1 := ih (a :: r) (by simp at hn; simpa using hn) (fun x hx => hd x (by simp at hx ⊢; rcases hx with hx | hx <;> simp [hx])) (by simp) (fun x y e hx => by
        injection e with e1 e2
        have := hz a (r ++ [c]) rfl (by rw [e1]; exact hx)
        simp at this)
      have h0 : val (a :: r) ≠ 0 := by
        intro z
        rw [z, dg_lt (by decide)] at h1
        injection h1 with h2 h3
        have := hz a (r ++ [c]) rfl (by rw [← h2]; decide)
        simp at this
      rw [dg_ge (by omega), show (val (a :: r) * 10 + (c.toNat - 48)) / 10 = val (a :: r) by omega, h1, show (val (a :: r) * 10 + (c.toNat - 48)) % 10 = c.toNat - 48 by omega, dgt_isD hc]
theorem dg_blank (n : Nat) : (32 : UInt8) ∉ dg n := fun h => by
  have := dg_digit n _ h
  unfold isD at this
  revert this
  decide
theorem dg_lenP : ∀ k n, n < 10 ^ k → 0 < k → (dg n).length ≤ k := by
  intro k
  induction k with
  | zero => intro n _ h; omega
  | succ k ih =>
    intro n hn _
    by_cases h : n < 10
    · rw [dg_lt h]; simp
    · rw [dg_ge h]
      have hk : 0 < k := by
        rcases Nat.eq_zero_or_pos k with z | z
        · subst z; simp at hn; omega
        · exact z
      have := ih (n / 10) (by rw [Nat.pow_succ] at hn; omega) hk
      simp; omega
theorem dg_len {n : Nat} (h : n < 2147483648) : (dg n).length ≤ 10 := dg_lenP 10 n (by omega) (by decide)
theorem dg_len20 {n : Nat} (h : n ≤ 1000000000000) : (dg n).length ≤ 20 := dg_lenP 20 n (by omega) (by decide)

/-- Hexes. -/
def hxc (n : Nat) : UInt8 := if n < 10 then UInt8.ofNat (48 + n) else UInt8.ofNat (87 + n)
def hexL : BL := [48, 49, 50, 51, 52, 53, 54, 55, 56, 57, 97, 98, 99, 100, 101, 102]
theorem hexL_get : ∀ n : Nat, n < 16 → hexL[n]? = some (hxc n) := by decide
theorem hxc_nat {n : Nat} (h : n < 16) : (hxc n).toNat = if n < 10 then 48 + n else 87 + n := by
  unfold hxc
  split <;> rw [UInt8.toNat_ofNat'] <;> omega
theorem hxc_inj {a b : Nat} (ha : a < 16) (hb : b < 16) (h : hxc a = hxc b) : a = b := by
  have := congrArg UInt8.toNat h
  rw [hxc_nat ha, hxc_nat hb] at this
  split at this <;> split at this <;> omega
def hxb (b : UInt8) : BL := [hxc (b.toNat / 16), hxc (b.toNat % 16)]
theorem u8_lt (b : UInt8) : b.toNat < 256 := b.toNat_lt
theorem hxb_inj {a b : UInt8} (h : hxb a = hxb b) : a = b := by
  unfold hxb at h
  injection h with h1 h2
  injection h2 with h2 _
  have ha := u8_lt a
  have hb := u8_lt b
  have e1 := hxc_inj (by omega) (by omega) h1
  have e2 := hxc_inj (by omega) (by omega) h2
  exact UInt8.toNat_inj.1 (by omega)
theorem hxf_inj : ∀ {s t : BL}, s.flatMap hxb = t.flatMap hxb → s = t
  | [], [], _ => rfl
  | [], b :: t, h => by simp [hxb] at h
  | a :: s, [], h => by simp [hxb] at h
  | a :: s, b :: t, h => by
    simp only [List.flatMap_cons] at h
    obtain ⟨h1, h2⟩ := List.append_inj h rfl
    rw [hxb_inj h1, hxf_inj h2]
def hexT (s : BL) : BL := if s = [] then [45] else s.flatMap hxb
theorem hexT_nil : hexT [] = [45] := rfl
theorem hexT_cons {s : BL} (h : s ≠ []) : hexT s = s.flatMap hxb := by unfold hexT; rw [if_neg h]
theorem hxf_len : ∀ s : BL, (s.flatMap hxb).length = 2 * s.length
  | [] => rfl
  | a :: s => by simp only [List.flatMap_cons, List.length_append, List.length_cons, hxf_len s]; simp [hxb]; omega
theorem hexT_inj {s t : BL} (h : hexT s = hexT t) : s = t := by
  by_cases hs : s = []
  · subst hs
    by_cases ht : t = []
    · exact ht.symm
    · rw [hexT_nil, hexT_cons ht] at h
      have := congrArg List.length h
      rw [hxf_len] at this
      simp at this; omega
  · by_cases ht : t = []
    · subst ht
      rw [hexT_nil, hexT_cons hs] at h
      have := congrArg List.length h
      rw [hxf_len] at this
      simp at this; omega
    · rw [hexT_cons hs, hexT_cons ht] at h; exact hxf_inj h
/-- Where a byte stands among the hexes. -/
def hxi (c : UInt8) : Int := if isHd : 48 ≤ c.toNat ∧ c.toNat ≤ 57 then (c.toNat : Int) - 48 else if 97 ≤ c.toNat ∧ c.toNat ≤ 102 then (c.toNat : Int) - 87 else -1
theorem hxi_hxc {n : Nat} (h : n < 16) : hxi (hxc n) = n := by
  unfold hxi
  rw [hxc_nat h]
  by_cases h1 : n < 10
  · rw [if_pos h1, dif_pos (by omega)]; omega
  · rw [if_neg h1, dif_neg (by omega), if_pos (by omega)]; omega
theorem hxc_hxi {c : UInt8} (h : 0 ≤ hxi c) : (hxi c).toNat < 16 ∧ hxc (hxi c).toNat = c := by
  unfold hxi at h ⊢
  split
  · rename_i h1
    refine ⟨by omega, UInt8.toNat_inj.1 ?_⟩
    rw [hxc_nat (by omega), if_pos (by omega)]; omega
  · rename_i h1
    rw [dif_neg h1] at h
    split
    · rename_i h2
      refine ⟨by omega, UInt8.toNat_inj.1 ?_⟩
      rw [hxc_nat (by omega), if_neg (by omega)]; omega
    · rename_i h2
      rw [if_neg h2] at h; omega
theorem hxf_get : ∀ (s : BL) (i : Nat) (c : UInt8), (s.flatMap hxb)[i]? = some c → 0 ≤ hxi c
  | [], i, c, h => by simp at h
  | a :: s, 0, c, h => by
    have ha := u8_lt a
    simp [hxb] at h; rw [← h, hxi_hxc (by omega)]; omega
  | a :: s, 1, c, h => by
    have ha := u8_lt a
    simp [hxb] at h; rw [← h, hxi_hxc (by omega)]; omega
  | a :: s, i + 2, c, h => hxf_get s i c (by simpa [hxb] using h)
theorem hxf_blank (s : BL) : (32 : UInt8) ∉ s.flatMap hxb := fun h => by
  obtain ⟨i, hi⟩ := List.getElem?_of_mem h
  have := hxf_get s i 32 hi
  revert this
  decide
theorem hexT_blank (s : BL) : (32 : UInt8) ∉ hexT s := by
  by_cases h : s = []
  · subst h; decide
  · rw [hexT_cons h]; exact hxf_blank s
theorem hexT_len (s : BL) : (hexT s).length ≤ 2 * s.length + 1 := by
  by_cases h : s = []
  · subst h; decide
  · rw [hexT_cons h, hxf_len]; omega

/-- Words with blanks between. -/
def jn : List BL → BL
  | [] => []
  | [w] => w
  | w :: v :: r => w ++ 32 :: jn (v :: r)
theorem jn_cons {w : BL} {r : List BL} (h : r ≠ []) : jn (w :: r) = w ++ 32 :: jn r := by
  cases r with
  | nil => exact absurd rfl h
  | cons v r => rfl
theorem cut_uniq : ∀ {a b x y : BL}, (32 : UInt8) ∉ a → (32 : UInt8) ∉ b → a ++ 32 :: x = b ++ 32 :: y → a = b ∧ x = y
  | [], [], x, y, _, _, h => ⟨rfl, by simpa using h⟩
  | [], b :: b1, x, y, _, hb, h => by
    simp only [List.nil_append, List.cons_append, List.cons.injEq] at h
    exact absurd (by rw [h.1]; exact List.mem_cons_self) hb
  | a :: a1, [], x, y, ha, _, h => by
    simp only [List.nil_append, List.cons_append, List.cons.injEq] at h
    exact absurd (by rw [← h.1]; exact List.mem_cons_self) ha
  | a :: a1, b :: b1, x, y, ha, hb, h => by
    simp only [List.cons_append, List.cons.injEq] at h
    obtain ⟨h1, h2⟩ := cut_uniq (a := a1) (b := b1) (fun z => ha (List.mem_cons_of_mem _ z)) (fun z => hb (List.mem_cons_of_mem _ z)) h.2
    exact ⟨by rw [h.1, h1], h2⟩
theorem jn_uniq : ∀ {l m : List BL}, l ≠ [] → m ≠ [] → (∀ w ∈ l, (32 : UInt8) ∉ w) → (∀ w ∈ m, (32 : UInt8) ∉ w) → jn l = jn m → l = m
  | [], _, h, _, _, _, _ => absurd rfl h
  | _, [], _, h, _, _, _ => absurd rfl h
  | [w], [v], _, _, _, _, h => by simp only [jn] at h; rw [h]
  | [w], v :: v' :: m, _, _, hl, hm, h => by
    rw [jn_cons (List.cons_ne_nil _ _)] at h
    simp only [jn] at h
    exact absurd (by rw [h]; simp) (hl w List.mem_cons_self)
  | w :: w' :: l, [v], _, _, hl, hm, h => by
    rw [jn_cons (List.cons_ne_nil _ _)] at h
    simp only [jn] at h
    exact absurd (by rw [← h]; simp) (hm v List.mem_cons_self)
  | w :: w' :: l, v :: v' :: m, _, _, hl, hm, h => by
    rw [jn_cons (List.cons_ne_nil _ _), jn_cons (List.cons_ne_nil _ _)] at h
    obtain ⟨h1, h2⟩ := cut_uniq (hl w List.mem_cons_self) (hm v List.mem_cons_self) h
    have := jn_uniq (l := w' :: l) (m := v' :: m) (List.cons_ne_nil _ _) (List.cons_ne_nil _ _) (fun x hx => hl x (List.mem_cons_of_mem _ hx)) (fun x hx => hm x (List.mem_cons_of_mem _ hx)) h2
    rw [h1, this]
theorem jn_snoc : ∀ (l : List BL) (w : BL), l ≠ [] → jn (l ++ [w]) = jn l ++ 32 :: w
  | [], w, h => absurd rfl h
  | [v], w, _ => rfl
  | v :: v' :: l, w, _ => by
    show jn (v :: ((v' :: l) ++ [w])) = _
    rw [jn_cons (by simp), jn_snoc (v' :: l) w (List.cons_ne_nil _ _), jn_cons (List.cons_ne_nil _ _)]
    simp
end Go.SL

/- Layer 32 (script), the plain law: acts and their words. -/
namespace Go.SL
set_option linter.unusedVariables false
set_option linter.unusedSimpArgs false
set_option linter.unusedSectionVars false

def verbL : List BL := [[108, 111, 99, 97, 108], [101, 120, 112, 111, 114, 116], [115, 116, 97, 103, 101], [105, 109, 112, 111, 114, 116], [108, 101, 97, 114, 110], [100, 114, 111, 112], [115, 112, 111, 105, 108], [102, 111, 114, 103, 101], [119, 114, 97, 112], [99, 97, 114, 114, 121], [117, 110, 119, 114, 97, 112], [97, 114, 109], [102, 97, 108, 108]]
theorem verb_inj : ∀ i j : Fin 13, verbL.getD i [] = verbL.getD j [] → i = j := by decide
theorem verb_blank : ∀ w ∈ verbL, (32 : UInt8) ∉ w := by decide
theorem verb_ne : ∀ w ∈ verbL, w ≠ [] := by decide
/-- Which numbers a kind's line has. -/
def pidxN : Nat → List Nat
  | 0 => [0, 3]
  | 1 => [0, 1, 3, 4]
  | 2 => [0, 2]
  | 3 => [0]
  | 4 => [0, 2]
  | 5 => [0]
  | 6 => [2, 1, 3]
  | 8 => [2, 4]
  | 9 => [0, 2]
  | 10 => [2]
  | 11 => [0, 3]
  | 12 => [0]
  | _ => []
def pidx (k : Int) : List Nat := if k < 0 then [] else pidxN k.toNat
def ntx (k : Int) : Nat := if k = 0 then 2 else if k = 7 then 1 else 0
theorem pidxN_big {k : Nat} (h : 12 < k) : pidxN k = [] := by
  unfold pidxN
  split <;> first | omega | rfl
theorem pidxN_ok (k : Nat) : (pidxN k).Nodup ∧ (∀ j ∈ pidxN k, j < 5) ∧ (pidxN k).length ≤ 4 := by
  by_cases h : k < 13
  · have : ∀ k : Fin 13, (pidxN k).Nodup ∧ (∀ j ∈ pidxN k, j < 5) ∧ (pidxN k).length ≤ 4 := by decide
    exact this ⟨k, h⟩
  · rw [pidxN_big (by omega)]; simp
theorem pidx_ok (k : Int) : (pidx k).Nodup ∧ (∀ j ∈ pidx k, j < 5) ∧ (pidx k).length ≤ 4 := by
  unfold pidx
  split
  · simp
  · exact pidxN_ok _
theorem pidx_big {k : Int} (h : ¬(0 ≤ k ∧ k ≤ 12)) : pidx k = [] := by
  unfold pidx
  split
  · rfl
  · exact pidxN_big (by omega)
theorem ntx_le (k : Int) : ntx k ≤ 2 := by unfold ntx; repeat (first | omega | split)

structure Ac where
  k : Int
  ns : List Int
  ts : List BL
  ks : List Int
def okN (n : Int) : Prop := 0 ≤ n ∧ n < 2147483648
instance (n : Int) : Decidable (okN n) := by unfold okN; infer_instance
namespace Ac
def clean (A : Ac) : Ac := ⟨A.k, (List.range 5).map fun j => if j ∈ pidx A.k then A.ns.getD j 0 else 0, (List.range 2).map fun j => if j < ntx A.k then A.ts.getD j [] else [], if A.k = 12 then A.ks else []⟩
def right (A : Ac) : Prop := 0 ≤ A.k ∧ A.k ≤ 12 ∧ (∀ j ∈ pidx A.k, okN (A.ns.getD j 0)) ∧ (∀ j, j < ntx A.k → (A.ts.getD j []).length ≤ 200) ∧ (A.k = 12 → A.ks.length ≤ 100 ∧ ∀ n ∈ A.ks, okN n)
def nw (ns : List Int) (l : List Nat) : List BL := l.map fun j => dg (ns.getD j 0).toNat
def tw (ts : List BL) (n : Nat) : List BL := (List.range n).map fun j => hexT (ts.getD j [])
def kw (ks : List Int) : List BL := ks.map fun n : Int => dg n.toNat
def ws (A : Ac) : List BL := verbL.getD A.k.toNat [] :: (nw A.ns (pidx A.k) ++ (tw A.ts (ntx A.k) ++ (if A.k = 12 then kw A.ks else [])))
theorem rg_get {α : Type} (f : Nat → α) (n j : Nat) (d : α) (h : j < n) : ((List.range n).map f).getD j d = f j := by
  rw [List.getD_eq_getElem?_getD, List.getElem?_map, List.getElem?_range h]; rfl
theorem clean_n (A : Ac) {j : Nat} (h : j ∈ pidx A.k) : A.clean.ns.getD j 0 = A.ns.getD j 0 := by
  unfold clean
  rw [rg_get _ _ _ _ ((pidx_ok _).2.1 j h), if_pos h]
theorem clean_t (A : Ac) {j : Nat} (h : j < ntx A.k) : A.clean.ts.getD j [] = A.ts.getD j [] := by
  have := ntx_le A.k
  unfold clean
  rw [rg_get _ _ _ _ (by omega), if_pos h]
theorem clean_k (A : Ac) : A.clean.k = A.k := rfl
theorem ws_clean (A : Ac) : A.clean.ws = A.ws := by
  unfold ws
  rw [clean_k]
  congr 1
  congr 1
  · exact List.map_congr_left fun j hj => by rw [clean_n A hj]
  · congr 1
    · exact List.map_congr_left fun j hj => by rw [clean_t A (List.mem_range.1 hj)]
    · by_cases h : A.k = 12
      · rw [if_pos h, if_pos h]; unfold clean; dsimp only; rw [if_pos h]
      · rw [if_neg h, if_neg h]
theorem right_clean (A : Ac) : A.clean.right ↔ A.right := by
  unfold right
  rw [clean_k]
  have h1 : (∀ j ∈ pidx A.k, okN (A.clean.ns.getD j 0)) ↔ ∀ j ∈ pidx A.k, okN (A.ns.getD j 0) :=
    ⟨fun h j hj => by rw [← clean_n A hj]; exact h j hj, fun h j hj => by rw [clean_n A hj]; exact h j hj⟩
  have h2 : (∀ j, j < ntx A.k → (A.clean.ts.getD j []).length ≤ 200) ↔ ∀ j, j < ntx A.k → (A.ts.getD j []).length ≤ 200 :=
    ⟨fun h j hj => by rw [← clean_t A hj]; exact h j hj, fun h j hj => by rw [clean_t A hj]; exact h j hj⟩
  have h3 : (A.k = 12 → A.clean.ks.length ≤ 100 ∧ ∀ n ∈ A.clean.ks, okN n) ↔ (A.k = 12 → A.ks.length ≤ 100 ∧ ∀ n ∈ A.ks, okN n) := by
    by_cases h : A.k = 12
    · have : A.clean.ks = A.ks := by unfold clean; dsimp only; rw [if_pos h]
      rw [this]
    · exact ⟨fun _ z => absurd z h, fun _ z => absurd z h⟩
  rw [h1, h2, h3]
theorem nw_len (ns : List Int) (l : List Nat) : (nw ns l).length = l.length := by simp [nw]
theorem tw_len (ts : List BL) (n : Nat) : (tw ts n).length = n := by simp [tw]
theorem kw_len (ks : List Int) : (kw ks).length = ks.length := by simp [kw]
theorem kw_inj : ∀ {l m : List Int}, (∀ n ∈ l, okN n) → (∀ n ∈ m, okN n) → kw l = kw m → l = m
  | [], [], _, _, _ => rfl
  | [], b :: m, _, _, h => by simp [kw] at h
  | a :: l, [], _, _, h => by simp [kw] at h
  | a :: l, b :: m, hl, hm, h => by
    simp only [kw, List.map_cons, List.cons.injEq] at h
    have h1 := dg_inj h.1
    have h2 := hl a List.mem_cons_self
    have h3 := hm b List.mem_cons_self
    unfold okN at h2 h3
    rw [show a = b by omega, kw_inj (fun n hn => hl n (List.mem_cons_of_mem _ hn)) (fun n hn => hm n (List.mem_cons_of_mem _ hn)) h.2]
theorem ws_kind {A : Ac} {k : Int} {r : List BL} (h : A.right) (hk : 0 ≤ k ∧ k ≤ 12) (e : A.ws = verbL.getD k.toNat [] :: r) : A.k = k ∧ nw A.ns (pidx k) ++ (tw A.ts (ntx k) ++ (if k = 12 then kw A.ks else [])) = r := by
  obtain ⟨h1, h2, _⟩ := h
  unfold ws at e
  injection e with e1 e2
  have := verb_inj ⟨A.k.toNat, by omega⟩ ⟨k.toNat, by omega⟩ e1
  have hk2 : A.k = k := by
    have := congrArg Fin.val this
    dsimp only at this
    omega
  rw [hk2] at e2
  exact ⟨hk2, e2⟩
/-- Two of the same words. -/
theorem same {A B : Ac} (h : A.right) (hk : 0 ≤ B.k ∧ B.k ≤ 12) (hb : ∀ j ∈ pidx B.k, okN (B.ns.getD j 0)) (hb2 : B.k = 12 → ∀ n ∈ B.ks, okN n) (e : A.ws = B.ws) : B.right ∧ A.clean = B.clean := by
  obtain ⟨e1, e2⟩ := ws_kind h hk (r := nw B.ns (pidx B.k) ++ (tw B.ts (ntx B.k) ++ (if B.k = 12 then kw B.ks else []))) e
  obtain ⟨h1, h2, h3, h4, h5⟩ := h
  rw [e1] at h3 h4 h5
  obtain ⟨e3, e4⟩ := List.append_inj e2 (by rw [nw_len, nw_len])
  obtain ⟨e5, e6⟩ := List.append_inj e4 (by rw [tw_len, tw_len])
  have f1 : ∀ j ∈ pidx B.k, A.ns.getD j 0 = B.ns.getD j 0 := fun j hj => by
    have q := dg_inj (List.map_inj_left.1 e3 j hj)
    have q1 := h3 j hj
    have q2 := hb j hj
    unfold okN at q1 q2
    omega
  have f2 : ∀ j, j < ntx B.k → A.ts.getD j [] = B.ts.getD j [] := fun j hj => hexT_inj (List.map_inj_left.1 e5 j (List.mem_range.2 hj))
  have f3 : B.k = 12 → A.ks = B.ks := fun z => by
    rw [if_pos z, if_pos z] at e6
    exact kw_inj (h5 z).2 (hb2 z) e6
  refine ⟨⟨hk.1, hk.2, hb, fun j hj => by rw [← f2 j hj]; exact h4 j hj, fun z => by rw [← f3 z]; exact h5 z⟩, ?_⟩
  unfold clean
  rw [e1]
  congr 1
  · refine List.map_congr_left fun j _ => ?_
    by_cases hj : j ∈ pidx B.k
    · rw [if_pos hj, if_pos hj, f1 j hj]
    · rw [if_neg hj, if_neg hj]
  · refine List.map_congr_left fun j _ => ?_
    by_cases hj : j < ntx B.k
    · rw [if_pos hj, if_pos hj, f2 j hj]
    · rw [if_neg hj, if_neg hj]
  · by_cases z : B.k = 12
    · rw [if_pos z, if_pos z, f3 z]
    · rw [if_neg z, if_neg z]
theorem ws_blank (A : Ac) (h : 0 ≤ A.k ∧ A.k ≤ 12) : ∀ w ∈ A.ws, (32 : UInt8) ∉ w := by
  intro w hw
  unfold ws at hw
  rcases List.mem_cons.1 hw with e | hw
  · refine verb_blank w ?_
    rw [e, List.getD_eq_getElem?_getD, List.getElem?_eq_getElem (show A.k.toNat < verbL.length by show _ < 13; omega)]
    exact List.getElem_mem _
  · rcases List.mem_append.1 hw with hw | hw
    · obtain ⟨j, _, rfl⟩ := List.mem_map.1 hw; exact dg_blank _
    · rcases List.mem_append.1 hw with hw | hw
      · obtain ⟨j, _, rfl⟩ := List.mem_map.1 hw; exact hexT_blank _
      · split at hw
        · obtain ⟨j, _, rfl⟩ := List.mem_map.1 hw; exact dg_blank _
        · cases hw
theorem ws_ne (A : Ac) : A.ws ≠ [] := by unfold ws; exact List.cons_ne_nil _ _
/-- The line. -/
def text (A : Ac) : BL := jn A.ws
end Ac
end Go.SL

/- strings: Split at blanks, walked. -/
namespace Go.SL
open Go.Proofs
set_option linter.unusedVariables false
set_option linter.unusedSimpArgs false
set_option linter.unusedSectionVars false
set_option maxRecDepth 10000
set_option maxHeartbeats 4000000
attribute [local irreducible] W WO SV OW SW Tri Ent Tk Has Src SrcK DA DB DP RdS Own OwnT MapH

theorem sl_IndexByte (s : BL) (c : UInt8) (L : List HP) :
    TriE Tryd.prog 78 #[strV s, u8V c] (fun v M => v = .int .i64 (Lib.indexByte s c) ∧ M = L) L := by
  refine Tri.of (N := 8) (args := [strV s, u8V c]) Tryd.func78 rfl rfl rfl ?_
  refine go ?_
  refine WO.sv rfl ?_
  refine SV.indexByteS (s := s) (c := c) Tryd.func98 rfl rfl rfl rfl rfl ?_
  refine go ?_
  exact ⟨rfl, [_], ⟨Res.tmp rfl, trivial⟩, L, ent, rfl, rfl⟩
theorem st_IndexByte (s : BL) (c : UInt8) (L : List HP) :
    TriE Tryd.prog 61 #[strV s, u8V c] (fun v M => v = .int .i64 (Lib.indexByte s c) ∧ M = L) L := by
  refine Tri.of (N := 8) (args := [strV s, u8V c]) Tryd.func61 rfl rfl rfl ?_
  refine go ?_
  refine WO.callE (vs := [strV s, u8V c]) Tryd.func78 rfl rfl rfl rfl (sl_IndexByte s c L) ?_
  rintro v M ⟨rfl, rfl⟩
  refine go ?_
  exact ⟨rfl, [_], ⟨Res.tmp rfl, trivial⟩, _, ent, rfl, rfl⟩
theorem sl_Index (s : BL) (c : UInt8) (L : List HP) :
    TriE Tryd.prog 97 #[strV s, strV [c]] (fun v M => v = .int .i64 (Lib.indexByte s c) ∧ M = L) L := by
  refine Tri.of (N := 143) (args := [strV s, strV [c]]) Tryd.func97 rfl rfl rfl ?_
  have hc1 : [c].length = 1 := rfl
  by_cases hs : [c] = s
  · subst hs
    refine go ?_
    refine WO.sv rfl ?_
    refine SV.eqlST (a := [c]) (b := [c]) rfl rfl rfl ?_
    refine go ?_
    exact ⟨rfl, [_], ⟨Res.tmp rfl, trivial⟩, L, ent, by rw [show Lib.indexByte [c] c = 0 by simp [Lib.indexByte]]; rfl, rfl⟩
  refine go ?_
  refine WO.sv rfl ?_
  refine SV.eqlSF (a := [c]) (b := s) rfl rfl hs ?_
  refine go ?_
  refine WO.sv rfl ?_
  refine SV.indexS (s := [c]) (c := c) rfl rfl (by decide) rfl ?_
  refine WO.callE (vs := [strV s, u8V c]) Tryd.func78 rfl rfl rfl rfl (sl_IndexByte s c L) ?_
  rintro v M ⟨rfl, rfl⟩
  refine go ?_
  exact ⟨rfl, [_], ⟨Res.tmp rfl, trivial⟩, _, ent, rfl, rfl⟩
theorem st_Index (s : BL) (c : UInt8) (L : List HP) :
    TriE Tryd.prog 77 #[strV s, strV [c]] (fun v M => v = .int .i64 (Lib.indexByte s c) ∧ M = L) L := by
  refine Tri.of (N := 8) (args := [strV s, strV [c]]) Tryd.func77 rfl rfl rfl ?_
  refine go ?_
  refine WO.callE (vs := [strV s, strV [c]]) Tryd.func97 rfl rfl rfl rfl (sl_Index s c L) ?_
  rintro v M ⟨rfl, rfl⟩
  refine go ?_
  exact ⟨rfl, [_], ⟨Res.tmp rfl, trivial⟩, _, ent, rfl, rfl⟩
theorem st_Count (s : BL) (c : UInt8) (L : List HP) :
    TriE Tryd.prog 76 #[strV s, strV [c]] (fun v M => v = .int .i64 (s.count c : Nat) ∧ M = L) L := by
  refine Tri.of (N := 34) (args := [strV s, strV [c]]) Tryd.func76 rfl rfl rfl ?_
  have hc1 : [c].length = 1 := rfl
  refine go ?_
  refine WO.sv rfl ?_
  refine SV.indexS (s := [c]) (c := c) rfl rfl (by decide) rfl ?_
  refine WO.sv rfl ?_
  refine SV.countS (s := s) (c := c) Tryd.func96 rfl rfl rfl rfl rfl ?_
  refine go ?_
  exact ⟨rfl, [_], ⟨Res.tmp rfl, trivial⟩, L, ent, rfl, rfl⟩
end Go.SL

/- strings: Split at blanks, walked. -/
namespace Go.SL
open Go.Proofs
set_option linter.unusedVariables false
set_option linter.unusedSimpArgs false
set_option linter.unusedSectionVars false
set_option maxRecDepth 10000
set_option maxHeartbeats 4000000

theorem ix_split (c : UInt8) : ∀ s : BL, (Lib.indexByte s c = -1 ∧ c ∉ s) ∨ ∃ o : Nat, Lib.indexByte s c = o ∧ o < s.length ∧ s = s.take o ++ c :: s.drop (o + 1) ∧ c ∉ s.take o
  | [] => .inl ⟨rfl, by simp⟩
  | b :: l => by
    unfold Lib.indexByte
    by_cases h : (b == c) = true
    · rw [if_pos h]
      right
      have : b = c := by simpa using h
      subst this
      exact ⟨0, rfl, by simp, by simp, by simp⟩
    · rw [if_neg h]
      have hbc : ¬b = c := by simpa using h
      rcases ix_split c l with ⟨h1, h2⟩ | ⟨o, h1, h2, h3, h4⟩
      · left
        rw [h1]
        exact ⟨rfl, by simp [h2]; exact fun e => hbc e.symm⟩
      · right
        rw [h1]
        refine ⟨o + 1, ?_, by simp; exact h2, ?_, ?_⟩
        · rw [if_neg (by simp)]; omega
        · simp only [List.take_succ_cons, List.drop_succ_cons, List.cons_append]
          rw [← h3]
        · simp only [List.take_succ_cons, List.mem_cons, not_or]
          exact ⟨fun e => hbc e.symm, h4⟩
/-- Words, each with a blank behind it. -/
def pre (w : List BL) : BL := w.flatMap fun x => x ++ [32]
theorem pre_snoc (w : List BL) (x : BL) : pre (w ++ [x]) = pre w ++ (x ++ [32]) := by simp [pre]
theorem pre_jn : ∀ (w : List BL) (x : BL), jn (w ++ [x]) = pre w ++ x
  | [], x => rfl
  | a :: w, x => by
    rw [List.cons_append, jn_cons (by simp), pre_jn w x]
    simp [pre]
theorem take_set {α : Type} (xs : List α) (i : Nat) (w : α) (h : i < xs.length) : (xs.set i w).take (i + 1) = xs.take i ++ [w] := by
  rw [List.take_add_one, List.getElem?_set_self h]
  congr 1
  apply List.ext_getElem?
  intro k
  simp only [List.getElem?_take]
  by_cases hk : k < i
  · rw [if_pos hk, if_pos hk, List.getElem?_set_ne (by omega)]
  · rw [if_neg hk, if_neg hk]
theorem Own.ofPts {E : TypeId} {b n : Nat} {xs : List Value} {L R : List HP} (hl : xs.length = n) (e : Ent L (pts b (.cells xs.toArray E) :: R)) : Ent L (Own E 1 (.slice (some ⟨b, 0, none⟩) n n) n xs :: R) := fun h x => by
  have y := e h x
  refine own_of (sp := []) (fr := (0, 0)) (b := b) (cap := n) ⟨rfl, Nat.le_refl _, by omega, by simp, .inl (Nat.le_refl _)⟩ ?_
  rw [List.append_nil]; exact y
/-- A row of texts. -/
def OZ (a : Option Addr) (c : Nat) (l : List BL) : HP := Own 9 1 (.slice a l.length c) l.length (l.map strV)
attribute [local irreducible] W WO SV OW SW Tri Ent Tk Has Src SrcK DA DB DP RdS Own OwnT MapH
theorem st_genSplit (s : BL) (L : List HP) (hs : s.length ≤ 100000) :
    TriE Tryd.prog 60 #[strV s, strV [32], .int .i64 0, .int .i64 (-1)] (fun v M => ∃ b c l, v = .slice (some ⟨b, 0, none⟩) l.length c ∧ M = OZ (some ⟨b, 0, none⟩) c l :: L ∧ l ≠ [] ∧ jn l = s ∧ (∀ w ∈ l, (32 : UInt8) ∉ w) ∧ l.length ≤ 100001) L := by
  refine Tri.of (N := 66) (args := [strV s, strV [32], .int .i64 0, .int .i64 (-1)]) Tryd.func60 rfl rfl rfl ?_
  have hc1 : ([32] : BL).length = 1 := rfl
  have hcl : s.count 32 ≤ s.length := List.count_le_length
  refine go ?_
  refine WO.sv rfl ?_
  refine SV.eqlSF (a := [32]) (b := []) rfl rfl (by decide) ?_
  refine go ?_
  refine WO.callE (vs := [strV s, strV [32]]) Tryd.func76 rfl rfl rfl rfl (st_Count s 32 L) ?_
  rintro v L ⟨rfl, rfl⟩
  generalize hcnt : s.count 32 = cnt at *
  refine go ?_
  rw [show min ((cnt : Int) + 1) ((s.length : Int) + 1) = ((cnt + 1 : Nat) : Int) by omega]
  refine go ?_
  refine WO.sv rfl ?_
  refine SV.makeSlice rfl (m := cnt + 1) rfl (by omega) (by omega) ?_
  intro b
  refine go ?_
  refine W.ent (show Ent _ (Own 9 1 (.slice (some ⟨b, 0, none⟩) (cnt + 1) (cnt + 1)) (cnt + 1) ((List.replicate (cnt + 1) ([] : BL)).map strV) :: L) from Own.ofPts (by simp) (by rw [List.map_replicate]; exact ent)) ?_
  refine W.loopS 288230358971845633 rfl (fun q : Nat × BL × List BL => [(10, .int .i64 (q.1 : Int)), (0, strV q.2.1)]) (fun q => Own 9 1 (.slice (some ⟨b, 0, none⟩) (cnt + 1) (cnt + 1)) (cnt + 1) (q.2.2.map strV) :: L)
    (fun q => q.1 ≤ cnt ∧ q.2.2.length = cnt + 1 ∧ s = pre (q.2.2.take q.1) ++ q.2.1 ∧ (∀ w ∈ q.2.2.take q.1, (32 : UInt8) ∉ w) ∧ q.2.1.count 32 = cnt - q.1) (fun q => cnt - q.1) (0, s, List.replicate (cnt + 1) []) ⟨rfl, rfl, trivial⟩
    ⟨Nat.zero_le _, by simp, by simp [pre], by simp, by simpa using hcnt⟩ (Ent.app ent) ?_
  rintro ⟨i, u, xs⟩ bg ⟨hi, hxl, hsu, hnb, hcu⟩
  dsimp only at hi hxl hsu hnb hcu ⊢
  have hul : u.length ≤ s.length := by rw [hsu]; simp
  by_cases h : i < cnt
  · refine go ?_
    refine WO.callE (vs := [strV u, strV [32]]) Tryd.func77 rfl rfl rfl rfl (st_Index u 32 _) ?_
    rintro v M ⟨rfl, rfl⟩
    rcases ix_split 32 u with ⟨_, h2⟩ | ⟨o, h1, h2, h3, h4⟩
    · have := List.count_eq_zero.2 h2
      omega
    rw [h1]
    refine go ?_
    refine WO.sv rfl ?_
    refine SV.cutStr (l := 0) (h := o) (s' := u.take o) rfl rfl (cutAt.of rfl rfl) (by omega) (by omega) rfl ?_
    refine go ?_
    refine WO.sv rfl ?_
    refine SV.storeO (v := strV (u.take o)) i rfl tk (by omega) rfl rfl (by rw [List.length_map]; omega) (xs' := (xs.set i (u.take o)).map strV) (by rw [List.map_set]) ?_
    refine go ?_
    refine WO.sv rfl ?_
    refine SV.cutStr (l := o + 1) (h := u.length) (s' := u.drop (o + 1)) rfl (cutAt.of rfl rfl) rfl (by omega) (Nat.le_refl _) (by rw [List.take_length]) ?_
    refine go ?_
    refine ⟨(i + 1, u.drop (o + 1), xs.set i (u.take o)), ⟨rfl, rfl, trivial⟩, rfl, ⟨h, by rw [List.length_set]; exact hxl, ?_, ?_, ?_⟩, by dsimp only; omega, Ent.app ent⟩
    · dsimp only
      rw [take_set _ _ _ (by omega), pre_snoc, hsu]
      conv => lhs; rw [h3]
      simp
    · dsimp only
      rw [take_set _ _ _ (by omega)]
      intro w hw
      rcases List.mem_append.1 hw with hw | hw
      · exact hnb w hw
      · rw [List.mem_singleton.1 hw]; exact h4
    · dsimp only
      have e1 : u.count 32 = (u.take o ++ 32 :: u.drop (o + 1)).count 32 := by rw [← h3]
      rw [List.count_append, List.count_cons_self, List.count_eq_zero.2 h4] at e1
      omega
  · obtain rfl : i = cnt := by omega
    have hu : (32 : UInt8) ∉ u := List.count_eq_zero.1 (by rw [hcu]; omega)
    refine go ?_
    refine WO.sv rfl ?_
    refine SV.storeO (v := strV u) i rfl tk (by omega) rfl rfl (by rw [List.length_map]; omega) (xs' := (xs.set i u).map strV) (by rw [List.map_set]) ?_
    refine go ?_
    refine WO.sv rfl ?_
    refine SV.cut (l := 0) (h := i + 1) rfl rfl (cutAt.of rfl rfl) (by omega) (by omega) ?_
    intro off' hoff
    obtain rfl : off' = 0 := by simpa using hoff (.inr rfl)
    refine go ?_
    have e0 := take_set xs i u (by omega)
    rw [List.take_of_length_le (by rw [List.length_set]; omega)] at e0
    refine ⟨rfl, [_], ⟨Res.tmp rfl, trivial⟩, OZ (some ⟨b, 0, none⟩) (i + 1) (xs.set i u) :: L, by unfold OZ; rw [List.length_set, hxl]; exact ent, b, i + 1, xs.set i u, ?_, rfl, ?_, ?_, ?_, ?_⟩
    · rw [List.length_set, hxl]; rfl
    · intro e
      have := congrArg List.length e
      rw [List.length_set, hxl] at this
      cases this
    · rw [e0, pre_jn, hsu]
    · rw [e0]
      intro w hw
      rcases List.mem_append.1 hw with hw | hw
      · exact hnb w hw
      · rw [List.mem_singleton.1 hw]; exact hu
    · rw [List.length_set, hxl]; omega
theorem st_Split (s : BL) (L : List HP) (hs : s.length ≤ 100000) :
    TriE Tryd.prog 36 #[strV s, strV [32]] (fun v M => ∃ b c l, v = .slice (some ⟨b, 0, none⟩) l.length c ∧ M = OZ (some ⟨b, 0, none⟩) c l :: L ∧ l ≠ [] ∧ jn l = s ∧ (∀ w ∈ l, (32 : UInt8) ∉ w) ∧ l.length ≤ 100001) L := by
  refine Tri.of (N := 8) (args := [strV s, strV [32]]) Tryd.func36 rfl rfl rfl ?_
  refine go ?_
  refine WO.callE (vs := [strV s, strV [32], .int .i64 0, .int .i64 (-1)]) Tryd.func60 rfl rfl rfl rfl (st_genSplit s L hs) ?_
  rintro v M ⟨b, c, l, rfl, rfl, h⟩
  refine go ?_
  exact ⟨rfl, [_], ⟨Res.tmp rfl, trivial⟩, _, ent, b, c, l, rfl, rfl, h⟩
end Go.SL

/- strings: Join with blanks, walked. -/
namespace Go.SL
open Go.Proofs
set_option linter.unusedVariables false
set_option linter.unusedSimpArgs false
set_option linter.unusedSectionVars false
set_option maxRecDepth 10000
set_option maxHeartbeats 4000000
attribute [local irreducible] W WO SV OW SW Tri Ent Tk Has Src SrcK DA DB DP RdS Own OwnT MapH

theorem sb_first (b : Nat) (x : Value) (L : List HP) :
    TriE Tryd.prog 73 #[.pointer (some ⟨b, 0, none⟩)] (fun v M => v = .tuple #[] ∧ M = pts b (.cells [.pointer (some ⟨b, 0, none⟩), x].toArray 109) :: L) (pts b (.cells [.pointer none, x].toArray 109) :: L) := by
  refine Tri.of (N := 20) (args := [.pointer (some ⟨b, 0, none⟩)]) Tryd.func73 rfl rfl rfl ?_
  refine go ?_
  refine WO.sv rfl ?_
  refine SV.toUnsafe rfl Tryd.underlying107 Tryd.underlying149 rfl (by decide) (by simp) ?_
  refine go ?_
  refine WO.sv rfl ?_
  refine SV.noEscape (x := .pointer (some ⟨b, 0, none⟩)) Tryd.func92 rfl rfl rfl rfl rfl ?_
  refine go ?_
  refine WO.sv rfl ?_
  refine SV.ofUnsafe rfl Tryd.underlying149 Tryd.underlying107 rfl (by kernel_rfl) ?_
  refine go ?_
  exact ⟨rfl, [], trivial, _, ent, rfl, rfl⟩
theorem sb_again (b : Nat) (x : Value) (L : List HP) :
    TriE Tryd.prog 73 #[.pointer (some ⟨b, 0, none⟩)] (fun v M => v = .tuple #[] ∧ M = pts b (.cells [.pointer (some ⟨b, 0, none⟩), x].toArray 109) :: L) (pts b (.cells [.pointer (some ⟨b, 0, none⟩), x].toArray 109) :: L) := by
  refine Tri.of (N := 20) (args := [.pointer (some ⟨b, 0, none⟩)]) Tryd.func73 rfl rfl rfl ?_
  refine go ?_
  refine WO.sv rfl ?_
  refine SV.neqPtrSame rfl rfl Tryd.underlying107 rfl ?_
  refine go ?_
  exact ⟨rfl, [], trivial, _, ent, rfl, rfl⟩
def OY (a : Option Addr) (c : Nat) (s : BL) : HP := Own 5 1 (.slice a s.length c) s.length (s.map u8V)
theorem sb_grow (b n : Nat) (L : List HP) (hn : n ≤ 100000000) :
    TriE Tryd.prog 74 #[.pointer (some ⟨b, 0, none⟩), .int .i64 n] (fun v M => v = .tuple #[] ∧ ∃ r c, M = pts b (.cells [.pointer (some ⟨b, 0, none⟩), .slice (some ⟨r, 0, none⟩) 0 c].toArray 109) :: OY (some ⟨r, 0, none⟩) c [] :: L) (pts b (.cells [.pointer (some ⟨b, 0, none⟩), .slice none 0 0].toArray 109) :: L) := by
  refine Tri.of (N := 30) (args := [.pointer (some ⟨b, 0, none⟩), .int .i64 n]) Tryd.func74 rfl rfl rfl ?_
  refine go ?_
  refine W.drawB #[0, 1, 3, 7, 15, 31, 0, 127, 255, 0, 512, 1536, 3584, 7680, 16383, 32767] [pts b (.cells [.pointer (some ⟨b, 0, none⟩), .slice none 0 0].toArray 109)] L rfl (by kernel_rfl) (by kernel_rfl) (by kernel_rfl) ent ?_
  refine go ?_
  refine DB.q (v := .int .i64 ((0 : Nat) : Int)) rfl rfl hl (SV.capS rfl eqq) ?_
  refine go ?_
  refine DB.v rfl rfl rfl hl hl ?_
  refine SV.makeNoZero (n := n) Tryd.func93 rfl rfl rfl rfl (show [Value.int .i64 (2 * ((0 : Nat) : Int) + (n : Int))] = [.int .i64 (n : Int)] by simp) (by omega) ?_
  intro r c hc
  refine ⟨[OY (some ⟨r, 0, none⟩) c []], L, ent, ?_⟩
  refine go ?_
  refine DB.q (v := .slice (some ⟨r, 0, none⟩) 0 c) rfl rfl hl (SV.cut (l := 0) (h := 0) rfl rfl (cutAt.of rfl rfl) (Nat.le_refl _) (Nat.zero_le _) (fun off' ho => by obtain rfl : off' = 0 := (by simpa using ho (.inr rfl)); exact ⟨rfl, rfl⟩)) ?_
  refine go ?_
  refine ⟨pts b (.cells [.pointer (some ⟨b, 0, none⟩), .slice none 0 0].toArray 109) :: OY (some ⟨r, 0, none⟩) c [] :: L, ent, ?_⟩
  refine go ?_
  refine WO.sv rfl ?_
  refine SV.copyZ rfl rfl ?_
  refine go ?_
  exact ⟨rfl, [], trivial, _, ent, rfl, r, c, rfl⟩
theorem sb_Grow (b n : Nat) (L : List HP) (h0 : 0 < n) (hn : n ≤ 100000000) :
    TriE Tryd.prog 56 #[.pointer (some ⟨b, 0, none⟩), .int .i64 n] (fun v M => v = .tuple #[] ∧ ∃ r c, M = pts b (.cells [.pointer (some ⟨b, 0, none⟩), .slice (some ⟨r, 0, none⟩) 0 c].toArray 109) :: OY (some ⟨r, 0, none⟩) c [] :: L) (pts b (.cells [.pointer none, .slice none 0 0].toArray 109) :: L) := by
  refine Tri.of (N := 25) (args := [.pointer (some ⟨b, 0, none⟩), .int .i64 n]) Tryd.func56 rfl rfl rfl ?_
  refine go ?_
  refine WO.callE (vs := [.pointer (some ⟨b, 0, none⟩)]) Tryd.func73 rfl rfl rfl rfl (sb_first b _ L) ?_
  rintro v M ⟨rfl, rfl⟩
  refine go ?_
  refine W.drawB #[0, 1, 3, 7, 15, 0, 32, 96, 224, 480, 1023, 0, 4095] [pts b (.cells [.pointer (some ⟨b, 0, none⟩), .slice none 0 0].toArray 109)] L rfl (by kernel_rfl) (by kernel_rfl) (by kernel_rfl) ent ?_
  refine go ?_
  refine DB.q (v := .int .i64 ((0 : Nat) : Int)) rfl rfl hl (SV.capS rfl eqq) ?_
  refine go ?_
  refine ⟨pts b (.cells [.pointer (some ⟨b, 0, none⟩), .slice none 0 0].toArray 109) :: L, ent, ?_⟩
  refine go ?_
  refine WO.callE (vs := [.pointer (some ⟨b, 0, none⟩), .int .i64 n]) Tryd.func74 rfl rfl rfl rfl (sb_grow b n L hn) ?_
  rintro v M ⟨rfl, r, c, rfl⟩
  refine go ?_
  exact ⟨rfl, [], trivial, _, ent, rfl, r, c, rfl⟩
theorem sb_Write (b c : Nat) (a : Option Addr) (bs s : BL) (L : List HP) (hn : bs.length + s.length ≤ 100000000) :
    TriE Tryd.prog 57 #[.pointer (some ⟨b, 0, none⟩), strV s] (fun v M => ∃ a c, M = pts b (.cells [.pointer (some ⟨b, 0, none⟩), .slice a (bs ++ s).length c].toArray 109) :: OY a c (bs ++ s) :: L ∧ SomeA a (bs ++ s).length) (pts b (.cells [.pointer (some ⟨b, 0, none⟩), .slice a bs.length c].toArray 109) :: OY a c bs :: L) := by
  refine Tri.of (N := 19) (args := [.pointer (some ⟨b, 0, none⟩), strV s]) Tryd.func57 rfl rfl rfl ?_
  refine go ?_
  refine WO.callE (vs := [.pointer (some ⟨b, 0, none⟩)]) Tryd.func73 rfl rfl rfl rfl (sb_again b _ _) ?_
  rintro v M ⟨rfl, rfl⟩
  refine go ?_
  unfold OY
  refine WO.sv rfl ?_
  refine SV.append rfl rfl rfl (Tk.there Tk.here) Src.str (by simp) (by simp [u8V, isCell]) (by omega) rfl ?_
  intro a' c' ha'
  refine go ?_
  refine ⟨rfl, [_, _], ⟨Res.tmp rfl, Res.tmp rfl, trivial⟩, pts b (.cells [.pointer (some ⟨b, 0, none⟩), .slice a' (bs.length + s.length) c'].toArray 109) :: Own 5 1 (.slice a' (bs.length + s.length) c') (bs.length + s.length) (bs.map u8V ++ s.map u8V) :: L, ent, a', c', ?_, ?_⟩
  · rw [List.length_append, List.map_append]
  · rw [List.length_append]; exact ha'
theorem sb_String (b c : Nat) (a : Option Addr) (bs : BL) (L : List HP) (h0 : bs ≠ []) (ha : SomeA a bs.length) (hn : bs.length ≤ 100000000) :
    TriE Tryd.prog 58 #[.pointer (some ⟨b, 0, none⟩)] (fun v M => v = strV bs ∧ M = L) (pts b (.cells [.pointer (some ⟨b, 0, none⟩), .slice a bs.length c].toArray 109) :: OY a c bs :: L) := by
  have hl0 : bs.length ≠ 0 := fun z => h0 (List.length_eq_zero_iff.1 z)
  obtain ⟨r, rfl⟩ := ha hl0
  refine Tri.of (N := 14) (args := [.pointer (some ⟨b, 0, none⟩)]) Tryd.func58 rfl rfl rfl ?_
  refine W.ownCap (show Tk _ (Own 5 1 (.slice (some ⟨r, 0, none⟩) bs.length c) bs.length (bs.map u8V)) _ from by unfold OY; exact Tk.there Tk.here) fun hc => ?_
  refine go ?_
  refine W.drawB #[0, 1, 3, 7, 15, 0, 32, 96, 224, 480, 1023, 2047] [pts b (.cells [.pointer (some ⟨b, 0, none⟩), .slice (some ⟨r, 0, none⟩) bs.length c].toArray 109)] (OY (some ⟨r, 0, none⟩) c bs :: L) rfl (by kernel_rfl) (by kernel_rfl) (by kernel_rfl) ent ?_
  refine go ?_
  refine DB.v rfl rfl rfl hl hl ?_
  refine SV.sliceData rfl (by omega) ?_
  refine ⟨[], OY (some ⟨r, 0, none⟩) c bs :: L, ent, ?_⟩
  refine go ?_
  refine DB.v rfl rfl rfl hl hl ?_
  unfold OY
  refine SV.unsafeStr (bs := bs) rfl rfl Tryd.underlying131 rfl (Tk.there Tk.here) h0 (by omega) ?_
  refine ⟨[], L, ent, ?_⟩
  refine go ?_
  refine ⟨pts b (.cells [.pointer (some ⟨b, 0, none⟩), .slice (some ⟨r, 0, none⟩) bs.length c].toArray 109) :: L, ent, ?_⟩
  refine go ?_
  exact ⟨rfl, [_], ⟨Res.tmp rfl, trivial⟩, L, ent, rfl, rfl⟩
end Go.SL
/- strings: Join with blanks, walked. -/
namespace Go.SL
open Go.Proofs
set_option linter.unusedVariables false
set_option linter.unusedSimpArgs false
set_option linter.unusedSectionVars false
set_option maxRecDepth 10000
set_option maxHeartbeats 4000000
attribute [local irreducible] W WO SV OW SW Tri Ent Tk Has Src SrcK DA DB DP RdS Own OwnT MapH

def sumL (l : List BL) (i : Nat) : Nat := ((l.take i).map List.length).sum
theorem sumL_succ (l : List BL) (i : Nat) (h : i < l.length) : sumL l (i + 1) = sumL l i + l[i].length := by
  unfold sumL
  rw [List.take_add_one, List.getElem?_eq_getElem h, Option.toList_some, List.map_append, List.sum_append]
  simp
theorem sumL_le (l : List BL) (i : Nat) : sumL l i ≤ sumL l l.length := by
  unfold sumL
  rw [List.take_length]
  conv => rhs; rw [← List.take_append_drop i l]
  rw [List.map_append, List.sum_append]
  omega
theorem jn_len : ∀ (l : List BL), l ≠ [] → (jn l).length + 1 = sumL l l.length + l.length
  | [], h => absurd rfl h
  | [w], _ => by simp [jn, sumL]
  | w :: v :: r, _ => by
    have ih := jn_len (v :: r) (List.cons_ne_nil _ _)
    rw [jn_cons (List.cons_ne_nil _ _)]
    simp only [sumL, List.take_length] at ih ⊢
    simp only [List.map_cons, List.sum_cons, List.length_append, List.length_cons] at ih ⊢
    omega
theorem jn_take (l : List BL) (i : Nat) (h : i + 1 < l.length) : jn (l.take (i + 2)) = (jn (l.take (i + 1)) ++ [32]) ++ l[i + 1] := by
  rw [List.take_add_one, List.getElem?_eq_getElem h, Option.toList_some, jn_snoc _ _ (by
    intro e
    have := congrArg List.length e
    rw [List.length_take, List.length_nil] at this
    omega)]
  simp
theorem jn_takeLe (l : List BL) (i : Nat) (h : i ≤ l.length) (h0 : 0 < i) : (jn (l.take i)).length ≤ (jn l).length := by
  have hl : l ≠ [] := fun e => by subst e; simp at h; omega
  have ht : l.take i ≠ [] := by
    intro e
    have := congrArg List.length e
    rw [List.length_take, List.length_nil] at this
    omega
  have h1 := jn_len l hl
  have h2 := jn_len (l.take i) ht
  have h3 : sumL (l.take i) (l.take i).length = sumL l i := by unfold sumL; rw [List.take_length]
  have h4 := sumL_le l i
  rw [List.length_take, Nat.min_eq_left h] at h2 h3
  omega
theorem st_Join (l : List BL) (a : Option Addr) (c : Nat) (L : List HP) (hl : l ≠ []) (hc : l.length ≤ c) (hb : (jn l).length ≤ 100000) (r : RdS 1 a l.length (l.map strV) L) :
    TriE Tryd.prog 30 #[.slice a l.length c, strV [32]] (fun v M => v = strV (jn l) ∧ M = L) L := by
  have hc1 : ([32] : BL).length = 1 := rfl
  have hpos : 0 < l.length := List.length_pos_iff.2 hl
  have hjl := jn_len l hl
  obtain ⟨ab, ao, rfl⟩ := r.at (by omega)
  have x0 : (l.map strV)[0]? = some (strV l[0]) := by rw [List.getElem?_map, List.getElem?_eq_getElem hpos]; rfl
  refine Tri.of (N := 75) (args := [.slice (some ⟨ab, ao, none⟩) l.length c, strV [32]]) Tryd.func30 rfl rfl rfl ?_
  by_cases h1 : l.length = 1
  · refine go ?_
    refine WO.sv rfl ?_
    refine SV.loadR (v := strV l[0]) 0 rfl r (by omega) x0 ?_
    refine go ?_
    refine ⟨rfl, [_], ⟨Res.tmp rfl, trivial⟩, L, ent, ?_, rfl⟩
    match l, h1 with
    | [w], _ => rfl
  have hq : (2 : Int) ≤ 9223372036854775807 / ((l.length : Int) - 1) := (Int.le_ediv_iff_mul_le (by omega)).2 (by omega)
  have hm : (([32] : BL).length : Int) * ((l.length : Int) - 1) = (l.length : Int) - 1 := by rw [hc1]; omega
  refine go ?_
  refine W.loopS 72055395014672544 rfl (fun i : Nat => [(5, .int .i64 ((l.length - 1 + sumL l i : Nat) : Int)), (41, .int .i64 (i : Int))]) (fun _ => L) (fun i => i ≤ l.length) (fun i => l.length - i) 0
    ⟨congrArg (Value.int .i64) (by rw [show sumL l 0 = 0 by simp [sumL]]; omega), rfl, trivial⟩ (Nat.zero_le _) (Ent.app ent) ?_
  intro i bg hi
  have hsl := sumL_le l i
  by_cases h2 : i < l.length
  · have hss := sumL_succ l i h2
    have hsl2 := sumL_le l (i + 1)
    have xi : (l.map strV)[i]? = some (strV l[i]) := by rw [List.getElem?_map, List.getElem?_eq_getElem h2]; rfl
    refine go ?_
    refine WO.sv rfl ?_
    refine SV.loadR (v := strV l[i]) i rfl r (by omega) xi ?_
    refine go ?_
    refine ⟨i + 1, ⟨congrArg (Value.int .i64) (by omega), rfl, trivial⟩, rfl, by omega, by omega, Ent.app ent⟩
  obtain rfl : i = l.length := by omega
  refine go ?_
  intro b8
  refine go ?_
  refine WO.callE (vs := [.pointer (some ⟨b8, 0, none⟩), .int .i64 (l.length - 1 + sumL l l.length : Nat)]) Tryd.func56 rfl rfl rfl rfl (sb_Grow b8 _ L (by omega) (by omega)) ?_
  rintro v M ⟨rfl, rr, rc, rfl⟩
  refine go ?_
  refine WO.sv rfl ?_
  refine SV.loadR (v := strV l[0]) 0 rfl r.cons.cons (by omega) x0 ?_
  have hl0 : l[0].length ≤ (jn l).length := by
    have := jn_takeLe l 1 (by omega) (by omega)
    rw [List.take_add_one, List.getElem?_eq_getElem hpos] at this
    simpa [jn] using this
  refine WO.callE (vs := [.pointer (some ⟨b8, 0, none⟩), strV l[0]]) Tryd.func57 rfl rfl rfl rfl (sb_Write b8 rc (some ⟨rr, 0, none⟩) [] l[0] L (by simp; omega)) ?_
  rintro v M ⟨a1, c1, rfl, ha1⟩
  rw [List.nil_append] at ha1 ⊢
  refine go ?_
  refine WO.sv rfl ?_
  refine SV.cut (l := 1) (h := l.length) rfl (cutAt.of rfl rfl) rfl (by omega) (by omega) ?_
  intro off' hoff
  obtain rfl : off' = ao + 1 * 1 := hoff (.inl (by omega))
  refine go ?_
  have ht1 : jn (l.take 1) = l[0] := by rw [List.take_add_one, List.getElem?_eq_getElem hpos]; rfl
  refine W.loopS 18852572443331161752576 rfl (fun q : Nat × Option Addr × Nat => [(65, .int .i64 (q.1 : Int))]) (fun q => pts b8 (.cells [.pointer (some ⟨b8, 0, none⟩), .slice q.2.1 (jn (l.take (q.1 + 1))).length q.2.2].toArray 109) :: OY q.2.1 q.2.2 (jn (l.take (q.1 + 1))) :: L)
    (fun q => q.1 + 1 ≤ l.length ∧ SomeA q.2.1 (jn (l.take (q.1 + 1))).length) (fun q => l.length - q.1) (0, a1, c1) ⟨rfl, trivial⟩ ⟨by dsimp only; omega, by dsimp only; rw [ht1]; exact ha1⟩ (by dsimp only; rw [ht1]; exact Ent.app ent) ?_
  rintro ⟨i, a2, c2⟩ bg2 ⟨hi, ha2⟩
  dsimp only at hi ha2 ⊢
  have hlen := jn_takeLe l (i + 1) hi (by omega)
  by_cases h2 : i + 1 < l.length
  · have xi : (l.map strV)[i + 1]? = some (strV l[i + 1]) := by rw [List.getElem?_map, List.getElem?_eq_getElem h2]; rfl
    have hlen2 := jn_takeLe l (i + 2) (by omega) (by omega)
    have ht2 := jn_take l i h2
    have ht3 := congrArg List.length ht2
    rw [List.length_append, List.length_append, hc1] at ht3
    refine go ?_
    refine WO.sv rfl ?_
    refine SV.loadR (v := strV l[i + 1]) (i + 1) rfl r.cons.cons (by omega) xi ?_
    refine go ?_
    refine WO.callE (vs := [.pointer (some ⟨b8, 0, none⟩), strV [32]]) Tryd.func57 rfl rfl rfl rfl (sb_Write b8 c2 a2 (jn (l.take (i + 1))) [32] L (by rw [hc1]; omega)) ?_
    rintro v M ⟨a3, c3, rfl, ha3⟩
    refine go ?_
    refine WO.callE (vs := [.pointer (some ⟨b8, 0, none⟩), strV l[i + 1]]) Tryd.func57 rfl rfl rfl rfl (sb_Write b8 c3 a3 (jn (l.take (i + 1)) ++ [32]) l[i + 1] L (by rw [List.length_append, hc1]; omega)) ?_
    rintro v M ⟨a4, c4, rfl, ha4⟩
    rw [← ht2] at ha4 ⊢
    refine go ?_
    exact ⟨(i + 1, a4, c4), ⟨rfl, trivial⟩, rfl, ⟨by dsimp only; omega, ha4⟩, by dsimp only; omega, Ent.app ent⟩
  have hi1 : i + 1 = l.length := by omega
  rw [hi1, List.take_length] at ha2 ⊢
  refine go ?_
  refine WO.callE (vs := [.pointer (some ⟨b8, 0, none⟩)]) Tryd.func58 rfl rfl rfl rfl (sb_String b8 c2 a2 (jn l) L (fun e => by rw [e] at hjl; simp at hjl; omega) ha2 (by omega)) ?_
  rintro v M ⟨rfl, rfl⟩
  refine go ?_
  exact ⟨rfl, [_], ⟨Res.tmp rfl, trivial⟩, _, ent, rfl, rfl⟩
end Go.SL
/- Layer 7: a device: what its small functions do, each walked once. -/
namespace Go.SL
open Go.Proofs
set_option linter.unusedVariables false
set_option linter.unusedSimpArgs false
set_option maxRecDepth 10000
attribute [local irreducible] W WO SV OW SW Tri Ent Tk Has Src SrcK DA DB RdS Own

abbrev Byt := List UInt8
structure Dv where
  kept : List Byt
  now : List Byt
  waits : List (Nat × Byt)
  arm : Int
  down : Bool
  ops : Int
def flushN (kept : List Byt) (waits : List (Nat × Byt)) : Nat → List Byt
  | 0 => kept
  | i + 1 => (flushN kept waits i).set (waits.getD i (0, [])).1 (waits.getD i (0, [])).2
structure Dv.Ok (d : Dv) : Prop where
  now : d.now.length = d.kept.length
  size : d.kept.length ≤ 4096
  k256 : ∀ s ∈ d.kept, s.length = 256
  n256 : ∀ s ∈ d.now, s.length = 256
  w256 : ∀ w ∈ d.waits, w.1 < d.kept.length ∧ w.2.length = 256
  arm : -1 ≤ d.arm ∧ d.arm ≤ 9223372036854775807
  sync : flushN d.kept d.waits d.waits.length = d.now
def wrV (w : Nat × Byt) : List Value := [.int .i64 w.1, strV w.2]
/-- Whether there are blocks; a call; a block. -/
def Dv.call (d : Dv) (may : Bool) : Dv × Int :=
  if d.kept.length = 0 then (d, 1) else if may = false then (d, 2) else
    ({ d with ops := IntKind.i64.wrap (d.ops + 1), down := d.down || decide (d.arm = 0), arm := max (-1) (d.arm - 1) }, if d.down || decide (d.arm = 0) then 17 else 0)
def Dv.is (d : Dv) (n : Int) : Bool := decide (0 ≤ n) && decide (n < d.kept.length)

abbrev DvX := Option Addr × Nat × Option Addr × Nat × Option Addr × Nat
abbrev dvL (b : Nat) (x : DvX) (d : Dv) : List HP :=
  [pts b (.cells [Value.slice x.1 d.kept.length x.2.1, Value.slice x.2.2.1 d.now.length x.2.2.2.1, Value.slice x.2.2.2.2.1 d.waits.length x.2.2.2.2.2, Value.int .i64 d.arm, Value.bool d.down, Value.int .i64 d.ops].toArray 96),
   Own 9 1 (.slice x.1 d.kept.length x.2.1) d.kept.length (d.kept.map strV), Own 9 1 (.slice x.2.2.1 d.now.length x.2.2.2.1) d.now.length (d.now.map strV), Own 103 2 (.slice x.2.2.2.2.1 d.waits.length x.2.2.2.2.2) d.waits.length (d.waits.flatMap wrV)]
def DevH (b : Nat) (d : Dv) : HP := hex fun x : DvX => conj (hpure (SomeA x.1 d.kept.length ∧ SomeA x.2.2.1 d.now.length ∧ SomeA x.2.2.2.2.1 d.waits.length) :: dvL b x d)
/-- Bytes of one's own. -/
def OS (a : Option Addr) (c : Nat) (s : Byt) : HP := Own 5 1 (.slice a s.length c) s.length (s.map u8V)
theorem OS.rd {a : Option Addr} {c : Nat} {s : Byt} {L R : List HP} (t : Tk L (OS a c s) R) (ha : SomeA a s.length) : RdS 1 a s.length (s.map u8V) L := RdS.ownS t ha (by simp)
theorem Dv.call_ok {d : Dv} (ok : d.Ok) (may : Bool) : (d.call may).1.Ok := by
  unfold Dv.call
  split
  · exact ok
  · split
    · exact ok
    · exact ⟨ok.now, ok.size, ok.k256, ok.n256, ok.w256, by have := ok.arm; dsimp only; omega, ok.sync⟩

theorem dv_none (b n c : Nat) (a : Option Addr) (c1 c2 c3 c4 c5 : Value) (L : List HP) (r : RdS 1 (some ⟨b, 0, none⟩) 6 [.slice a n c, c1, c2, c3, c4, c5] L) :
    TriE Tryd.prog 53 #[.pointer (some ⟨b, 0, none⟩)] (fun v M => v = .bool (decide (n = 0)) ∧ M = L) L := by
  refine Tri.of (N := 13) (args := [.pointer (some ⟨b, 0, none⟩)]) Tryd.func53 rfl rfl rfl ?_
  refine go ?_
  refine WO.sv rfl ?_
  refine SV.loadR 0 rfl r rfl rfl ?_
  refine goD ?_
  exact ⟨rfl, [_], ⟨Res.tmp rfl, trivial⟩, L, ent, by show Value.bool (decide ((n : Int) = 0)) = _; congr 1; exact decide_eq_decide.2 (by omega), rfl⟩
theorem dv_none0 (L : List HP) : TriE Tryd.prog 53 #[.pointer none] (fun v M => v = .bool true ∧ M = L) L := by
  refine Tri.of (N := 13) (args := [.pointer none]) Tryd.func53 rfl rfl rfl ?_
  refine go ?_
  exact ⟨rfl, [_], ⟨Res.tmp rfl, trivial⟩, L, ent, rfl, rfl⟩
theorem dv_Len (b n c : Nat) (a : Option Addr) (c1 c2 c3 c4 c5 : Value) (L : List HP) (r : RdS 1 (some ⟨b, 0, none⟩) 6 [.slice a n c, c1, c2, c3, c4, c5] L) :
    TriE Tryd.prog 47 #[.pointer (some ⟨b, 0, none⟩)] (fun v M => v = .int .i64 n ∧ M = L) L := by
  refine Tri.of (N := 10) (args := [.pointer (some ⟨b, 0, none⟩)]) Tryd.func47 rfl rfl rfl ?_
  refine go ?_
  refine WO.callE (vs := [.pointer (some ⟨b, 0, none⟩)]) Tryd.func53 rfl rfl rfl rfl (dv_none b n c a c1 c2 c3 c4 c5 _ r) ?_
  rintro v M ⟨rfl, rfl⟩
  refine go ?_
  refine W.if rfl (fun h => ?_) (fun h => ?_)
  · subst h
    refine go ?_
    exact ⟨rfl, [_], ⟨Res.tmp rfl, trivial⟩, _, ent, rfl, rfl⟩
  · refine go ?_
    refine WO.sv rfl ?_
    refine SV.loadR 0 rfl r rfl rfl ?_
    refine go ?_
    exact ⟨rfl, [_], ⟨Res.tmp rfl, trivial⟩, _, ent, rfl, rfl⟩
theorem dv_Len0 (L : List HP) : TriE Tryd.prog 47 #[.pointer none] (fun v M => v = .int .i64 0 ∧ M = L) L := by
  refine Tri.of (N := 10) (args := [.pointer none]) Tryd.func47 rfl rfl rfl ?_
  refine go ?_
  refine WO.callE (vs := [.pointer none]) Tryd.func53 rfl rfl rfl rfl (dv_none0 _) ?_
  rintro v M ⟨rfl, rfl⟩
  refine go ?_
  exact ⟨rfl, [_], ⟨Res.tmp rfl, trivial⟩, _, ent, rfl, rfl⟩
theorem dv_is (b n c : Nat) (k : Int) (a : Option Addr) (c1 c2 c3 c4 c5 : Value) (L : List HP) (r : RdS 1 (some ⟨b, 0, none⟩) 6 [.slice a n c, c1, c2, c3, c4, c5] L) :
    TriE Tryd.prog 67 #[.pointer (some ⟨b, 0, none⟩), .int .i64 k] (fun v M => v = .bool (decide (0 ≤ k) && decide (k < n)) ∧ M = L) L := by
  refine Tri.of (N := 13) (args := [.pointer (some ⟨b, 0, none⟩), .int .i64 k]) Tryd.func67 rfl rfl rfl ?_
  refine go ?_
  refine WO.sv rfl ?_
  refine SV.geqC rfl rfl ?_ ?_
  · intro h
    refine go ?_
    refine WO.callE (vs := [.pointer (some ⟨b, 0, none⟩)]) Tryd.func47 rfl rfl rfl rfl (dv_Len b n c a c1 c2 c3 c4 c5 _ r) ?_
    rintro v M ⟨rfl, rfl⟩
    refine goD ?_
    exact ⟨rfl, [_], ⟨Res.tmp rfl, trivial⟩, _, ent, by rw [decide_eq_true h, Bool.true_and]; rfl, rfl⟩
  · intro h
    refine go ?_
    exact ⟨rfl, [_], ⟨Res.tmp rfl, trivial⟩, _, ent, by rw [decide_eq_false (show ¬ (0 : Int) ≤ k by omega), Bool.false_and]; rfl, rfl⟩
theorem dv_is0 (k : Int) (L : List HP) : TriE Tryd.prog 67 #[.pointer none, .int .i64 k] (fun v M => v = .bool false ∧ M = L) L := by
  refine Tri.of (N := 13) (args := [.pointer none, .int .i64 k]) Tryd.func67 rfl rfl rfl ?_
  refine go ?_
  refine WO.sv rfl ?_
  refine SV.geqC rfl rfl ?_ ?_
  · intro h
    refine go ?_
    refine WO.callE (vs := [.pointer none]) Tryd.func47 rfl rfl rfl rfl (dv_Len0 _) ?_
    rintro v M ⟨rfl, rfl⟩
    refine go ?_
    exact ⟨rfl, [_], ⟨Res.tmp rfl, trivial⟩, _, ent, rfl, rfl⟩
  · intro h
    refine go ?_
    exact ⟨rfl, [_], ⟨Res.tmp rfl, trivial⟩, _, ent, rfl, rfl⟩

/-! sync/atomic -/
theorem at_Add (b off : Nat) (l l' : List Value) (T : TypeId) (x y z : Int) (R : List HP) (hc : lget l off = some (.int .i64 x)) (hw : IntKind.i64.wrap (x + y) = z) (hl : NL (lput l off [.int .i64 z]) l') :
    TriE Tryd.prog 84 #[.pointer (some ⟨b, off, none⟩), .int .i64 y] (fun v M => v = .int .i64 z ∧ M = pts b (.cells l'.toArray T) :: R) (pts b (.cells l.toArray T) :: R) := by
  refine Tri.of (N := 10) (args := [.pointer (some ⟨b, off, none⟩), .int .i64 y]) Tryd.func84 rfl rfl rfl ?_
  refine go ?_
  refine WO.sv rfl ?_
  refine SV.atomAdd (b := b) (off := off) Tryd.func100 rfl rfl (by kernel_rfl) (by kernel_rfl) rfl hc (Nat.le_refl _) hw hl ?_
  refine go ?_
  exact ⟨rfl, [_], ⟨Res.tmp rfl, trivial⟩, _, ent, rfl, rfl⟩
/-! a call begins -/
theorem dv_call (b : Nat) (x : DvX) (d : Dv) (may : Bool) (R : List HP) (ha : -1 ≤ d.arm ∧ d.arm ≤ 9223372036854775807) :
    TriE Tryd.prog 66 #[.pointer (some ⟨b, 0, none⟩), .bool may] (fun v M => v = .int .i64 (d.call may).2 ∧ M = dvL b x (d.call may).1 ++ R) (dvL b x d ++ R) := by
  obtain ⟨ka, kc, na, nc, wa, wc⟩ := x
  obtain ⟨kept, now, waits, arm, down, ops⟩ := d
  dsimp only at ha
  simp only [dvL, List.cons_append, List.nil_append]
  refine Tri.of (N := 42) (args := [.pointer (some ⟨b, 0, none⟩), .bool may]) Tryd.func66 rfl rfl rfl ?_
  refine go ?_
  refine WO.callE (vs := [.pointer (some ⟨b, 0, none⟩)]) Tryd.func53 rfl rfl rfl rfl (dv_none b _ _ _ _ _ _ _ _ _ (RdS.all rfl)) ?_
  rintro v M ⟨rfl, rfl⟩
  refine go ?_
  refine W.if rfl (fun h => ?_) (fun h => ?_)
  · refine go ?_
    refine ⟨rfl, [_], ⟨Res.tmp rfl, trivial⟩, _, Ent.refl _, ?_, ?_⟩
    · simp only [Dv.call]; rw [if_pos h]; rfl
    · simp only [Dv.call]; rw [if_pos h]
  cases may with
  | false =>
    refine go ?_
    refine ⟨rfl, [_], ⟨Res.tmp rfl, trivial⟩, _, Ent.refl _, ?_, ?_⟩
    · simp only [Dv.call]; rw [if_neg h, if_pos trivial]; rfl
    · simp only [Dv.call]; rw [if_neg h, if_pos trivial]
  | true =>
    refine go ?_
    refine WO.callE (vs := [.pointer (some ⟨b, 0 + 5, none⟩), .int .i64 1]) Tryd.func84 rfl rfl rfl rfl (at_Add b (0 + 5) _ [.slice ka kept.length kc, .slice na now.length nc, .slice wa waits.length wc, .int .i64 arm, .bool down, .int .i64 (IntKind.i64.wrap (ops + 1))] _ ops 1 _ _ rfl rfl nl) ?_
    rintro v M ⟨rfl, rfl⟩
    cases down with
    | true =>
      refine go ?_
      refine ⟨rfl, [_], ⟨Res.tmp rfl, trivial⟩, _, Ent.refl _, ?_, ?_⟩
      · simp only [Dv.call]; rw [if_neg h, if_neg (by decide)]; rfl
      · simp only [Dv.call]; rw [if_neg h, if_neg (by decide)]; rfl
    | false =>
      by_cases h0 : arm = 0
      · refine go ?_
        refine ⟨rfl, [_], ⟨Res.tmp rfl, trivial⟩, _, Ent.refl _, ?_, ?_⟩
        · simp only [Dv.call]; rw [if_neg h, if_neg (by decide), decide_eq_true h0]; rfl
        · simp only [Dv.call]; rw [if_neg h, if_neg (by decide), decide_eq_true h0]; rfl
      · refine go ?_
        refine ⟨rfl, [_], ⟨Res.tmp rfl, trivial⟩, _, Ent.refl _, ?_, ?_⟩
        · simp only [Dv.call]; rw [if_neg h, if_neg (by decide), decide_eq_false h0]; rfl
        · simp only [Dv.call]; rw [if_neg h, if_neg (by decide), decide_eq_false h0]; rfl
theorem dv_call0 (may : Bool) (L : List HP) : TriE Tryd.prog 66 #[.pointer none, .bool may] (fun v M => v = .int .i64 1 ∧ M = L) L := by
  refine Tri.of (N := 42) (args := [.pointer none, .bool may]) Tryd.func66 rfl rfl rfl ?_
  refine go ?_
  refine WO.callE (vs := [.pointer none]) Tryd.func53 rfl rfl rfl rfl (dv_none0 _) ?_
  rintro v M ⟨rfl, rfl⟩
  refine go ?_
  exact ⟨rfl, [_], ⟨Res.tmp rfl, trivial⟩, _, ent, rfl, rfl⟩
end Go.SL

/- Layer 8: marks: what the small functions do, each walked once. -/
namespace Go.SL
open Go.Proofs
set_option linter.unusedVariables false
set_option linter.unusedSimpArgs false
set_option maxRecDepth 10000
set_option maxHeartbeats 4000000
attribute [local irreducible] W WO SV OW SW Tri Ent Tk Has Src SrcK DA DB RdS Own

/-- The i-th byte of a number, the greatest first. -/
def byteOf (v i : Nat) : UInt8 := UInt8.ofNat (v / 2 ^ (8 * (7 - i)))
def beN (v i : Nat) : Byt := (List.range i).map (byteOf v)
theorem beN_succ (v i : Nat) : beN v (i + 1) = beN v i ++ [byteOf v i] := by unfold beN; rw [List.range_succ, List.map_append]; rfl
@[simp] theorem beN_len (v i : Nat) : (beN v i).length = i := by simp [beN]
theorem u64_shr (v i : Nat) (z : Int) (h : z = 8 * (7 - (i : Int))) (hi : i < 8) : (v : Int).fdiv (2 ^ (min z.toNat (IntKind.bits .u64))) = ((v / 2 ^ (8 * (7 - i)) : Nat) : Int) := by
  have e : min z.toNat (IntKind.bits .u64) = 8 * (7 - i) := by subst h; show min _ 64 = _; omega
  rw [e, Int.fdiv_eq_ediv_of_nonneg _ (by exact_mod_cast Nat.zero_le _)]
  exact_mod_cast rfl
theorem u8_of (n : Nat) : IntKind.wrap .u8 (n : Int) = ((UInt8.ofNat n).toNat : Int) := by
  show ((n : Int) % 256) = _
  rw [UInt8.toNat_ofNat']
  exact_mod_cast rfl

theorem mk_word (a : Option Addr) (c : Nat) (s : Byt) (v : Nat) (R : List HP) (hs : s.length ≤ 1000) (ha : SomeA a s.length) (hv : v < 18446744073709551616) :
    TriE Tryd.prog 99 #[.slice a s.length c, .int .u64 v] (fun r M => ∃ a' c', r = .slice a' (s ++ beN v 8).length c' ∧ SomeA a' (s ++ beN v 8).length ∧ M = OS a' c' (s ++ beN v 8) :: R) (OS a c s :: R) := by
  refine Tri.of (N := 19) (args := [.slice a s.length c, .int .u64 v]) Tryd.func99 rfl rfl rfl ?_
  unfold OS
  refine go ?_
  refine W.loopS 262113 rfl (fun q : Nat × Option Addr × Nat => [(0, .slice q.2.1 (s.length + q.1) q.2.2), (5, .int .i64 (7 - (q.1 : Int)))])
    (fun q => Own 5 1 (.slice q.2.1 (s.length + q.1) q.2.2) (s.length + q.1) ((s ++ beN v q.1).map u8V) :: R)
    (fun q => q.1 ≤ 8 ∧ SomeA q.2.1 (s.length + q.1)) (fun q => 8 - q.1) (0, a, c) ⟨rfl, rfl, trivial⟩ ⟨Nat.zero_le _, ha⟩ (Ent.app ?_) ?_
  · dsimp only
    rw [show s ++ beN v 0 = s by simp [beN]]
    exact ent
  rintro ⟨i, a, c⟩ bg ⟨hi, hsa⟩
  dsimp only at hi hsa ⊢
  by_cases h8 : i < 8
  · refine go ?_
    refine WO.sv rfl ?_
    refine SV.shr rfl rfl (by omega) (u64_shr v i _ (by omega) h8) ?_
    refine WO.sv rfl ?_
    refine SV.convInt rfl (u8_of _) ?_
    refine WO.sv rfl ?_
    refine SV.lit rfl rfl rfl parts rfl nl ?_
    intro bl
    refine WO.sv rfl ?_
    refine SV.append rfl rfl rfl tk (RdS.src (RdS.all (sz := 1) (n := 1) rfl)) rfl rfl (by omega) rfl ?_
    intro a' c' ha'
    refine go ?_
    refine ⟨(i + 1, a', c'), ⟨rfl, by show Value.int _ _ = _; congr 1; dsimp only; omega, trivial⟩, rfl, ⟨by dsimp only; omega, fun _ => ha' (by omega)⟩, by dsimp only; omega, Ent.app ?_⟩
    dsimp only
    rw [beN_succ, ← List.append_assoc, List.map_append (l₂ := [byteOf v i])]
    exact ent
  · obtain rfl : i = 8 := by omega
    refine go ?_
    refine ⟨rfl, [_], ⟨Res.tmp rfl, trivial⟩, Own 5 1 (.slice a (s ++ beN v 8).length c) (s ++ beN v 8).length ((s ++ beN v 8).map u8V) :: R, ?_, a, c, ?_, ?_, rfl⟩
    · rw [List.length_append, beN_len]
      exact ent
    · rw [List.length_append, beN_len]; rfl
    · rw [List.length_append, beN_len]; exact hsa
end Go.SL

/- Layer 8: marks: what the small functions do, each walked once. -/
namespace Go.SL
open Go.Proofs
set_option linter.unusedVariables false
set_option linter.unusedSimpArgs false
set_option maxRecDepth 10000
set_option maxHeartbeats 4000000
attribute [local irreducible] W WO SV OW SW Tri Ent Tk Has Src SrcK DA DB RdS Own

abbrev mkL (k : UInt8) (e s : Nat) : List Value := [u8V k, .int .u64 e, .int .u64 s]
def mkB (k : UInt8) (e s : Nat) : Byt := [k] ++ beN e 8 ++ beN s 8
@[simp] theorem mkB_len (k : UInt8) (e s : Nat) : (mkB k e s).length = 17 := by simp [mkB]
/-- Whether a kind may be. -/
def mkR (k : UInt8) : Bool := !decide (k.toNat = 0) && !decide (k.toNat = 3)

theorem mk_right (k : UInt8) (e s : Nat) (L : List HP) : TriE Tryd.prog 82 #[.agg (mkL k e s).toArray] (fun v M => v = .bool (mkR k) ∧ M = L) L := by
  have hlt := k.toNat_lt
  unfold mkR
  refine Tri.of (N := 11) (args := [.agg (mkL k e s).toArray]) Tryd.func82 rfl rfl rfl ?_
  dsimp only [mkL, u8V]
  refine go ?_
  intro b1
  by_cases h0 : k.toNat = 0
  · refine go ?_
    exact ⟨rfl, [_], ⟨Res.tmp rfl, trivial⟩, L, ent, by rw [decide_eq_true h0]; rfl, rfl⟩
  · by_cases h3 : k.toNat = 3
    · refine go ?_
      exact ⟨rfl, [_], ⟨Res.tmp rfl, trivial⟩, L, ent, by rw [decide_eq_false h0, decide_eq_true h3]; rfl, rfl⟩
    · refine go ?_
      exact ⟨rfl, [_], ⟨Res.tmp rfl, trivial⟩, L, ent, by rw [decide_eq_false h0, decide_eq_false h3]; rfl, rfl⟩

theorem mk_lay (k : UInt8) (e s : Nat) (R : List HP) (h1 : e < 18446744073709551616) (h2 : s < 18446744073709551616) :
    TriE Tryd.prog 83 #[.agg (mkL k e s).toArray] (fun r M => ∃ a c, r = .slice a (mkB k e s).length c ∧ SomeA a (mkB k e s).length ∧ M = OS a c (mkB k e s) :: R) R := by
  refine Tri.of (N := 12) (args := [.agg (mkL k e s).toArray]) Tryd.func83 rfl rfl rfl ?_
  refine go ?_
  intro b1
  refine go ?_
  refine W.drawG (fun _ => false) #[0, 1, 3, 0, 8, 31, 0, 64, 255, 511] [pts b1 (.cells [u8V k, .int .u64 e, .int .u64 s].toArray 123)] R rfl (by kernel_rfl) (by kernel_rfl) (by kernel_rfl) ent ?_
  refine go ?_
  refine DB.litH rfl rfl rfl parts rfl nl rfl rfl ?_
  intro b2
  refine go ?_
  refine DB.callE (vs := [.slice (some ⟨b2, 0, none⟩) 1 1, .int .u64 e]) Tryd.func99 rfl rfl rfl rfl hl hl (TriE.ent (Ent.trans (B := pts b2 (.cells [u8V k].toArray 5) :: pts b1 (.cells [u8V k, .int .u64 e, .int .u64 s].toArray 123) :: R) ent (ent_own (sz := 1) (n := 1) rfl)) (mk_word (some ⟨b2, 0, none⟩) 1 [k] e (pts b1 (.cells [u8V k, .int .u64 e, .int .u64 s].toArray 123) :: R) (by simp) (fun _ => ⟨b2, rfl⟩) h1)) ?_
  rintro v M ⟨a3, c3, rfl, s3, rfl⟩
  refine ⟨[], OS a3 c3 ([k] ++ beN e 8) :: R, ent, ?_⟩
  refine go ?_
  refine DB.callE (vs := [.slice a3 ([k] ++ beN e 8).length c3, .int .u64 s]) Tryd.func99 rfl rfl rfl rfl hl hl (TriE.ent ent (mk_word a3 c3 ([k] ++ beN e 8) s (pts b1 (.cells [u8V k, .int .u64 e, .int .u64 s].toArray 123) :: R) (by simp) s3 h2)) ?_
  rintro v M ⟨a4, c4, rfl, s4, rfl⟩
  refine ⟨[], OS a4 c4 (mkB k e s) :: R, ent, ?_⟩
  refine go ?_
  refine ⟨OS a4 c4 (mkB k e s) :: R, ent, ?_⟩
  refine go ?_
  exact ⟨rfl, [_], ⟨Res.tmp rfl, trivial⟩, _, ent, a4, c4, rfl, s4, rfl⟩

theorem app_succ (p : Byt) (v i : Nat) : p ++ beN v (i + 1) = (p ++ beN v i) ++ [byteOf v i] := by rw [beN_succ, ← List.append_assoc]
end Go.SL

/- Layer 8: marks: trimming, cloning, reading. -/
namespace Go.SL
open Go.Proofs
set_option linter.unusedVariables false
set_option linter.unusedSimpArgs false
set_option maxRecDepth 10000
set_option maxHeartbeats 4000000
attribute [local irreducible] W WO SV OW SW Tri Ent Tk Has Src SrcK DA DB RdS Own

theorem sl_CloneB (a : Option Addr) (c : Nat) (s : Byt) (L : List HP) (hn : s.length ≤ 1000000) (r : RdS 1 a s.length (s.map u8V) L) :
    TriE Tryd.prog 87 #[.slice a s.length c] (fun v M => ∃ a' c', v = .slice a' s.length c' ∧ SomeA a' s.length ∧ M = OS a' c' s :: L) L := by
  unfold OS
  generalize hsl : s.length = n at *
  refine Tri.of (N := 8) (args := [.slice a n c]) Tryd.func87 rfl rfl rfl ?_
  cases a with
  | none =>
    have h0 : n = 0 := Classical.byContradiction fun h0 => by obtain ⟨b, off, e⟩ := r.at h0; cases e
    subst h0
    have hx : s = [] := List.eq_nil_of_length_eq_zero hsl
    subst hx
    refine go ?_
    exact ⟨rfl, [_], ⟨Res.tmp rfl, trivial⟩, _, Ent.ownNil (Ent.refl _), none, 0, rfl, fun h => absurd rfl h, rfl⟩
  | some a =>
    refine go ?_
    refine WO.sv rfl ?_
    refine SV.lit0 ?_
    intro b1
    refine go ?_
    refine WO.ent (ent_own (sz := 1) (n := 0) rfl) ?_
    refine WO.sv rfl ?_
    refine SV.append rfl rfl rfl tk (RdS.src r) (by rw [r.len]) (by simp [u8V, isCell]) (by omega) rfl ?_
    intro a' c' ha'
    rw [Nat.zero_add, List.nil_append] at *
    refine go ?_
    exact ⟨rfl, [_], ⟨Res.tmp rfl, trivial⟩, _, ent, a', c', rfl, ha', rfl⟩

/-- How many bytes are left of some bytes behind those that are c at the end. -/
def trimR (c : UInt8) : Byt → Nat → Nat
  | s, 0 => 0
  | s, n + 1 => if s.getD n 0 = c then trimR c s n else n + 1
theorem trimR_le (c : UInt8) (s : Byt) : ∀ n, trimR c s n ≤ n
  | 0 => Nat.le_refl _
  | n + 1 => by
    have := trimR_le c s n
    rw [trimR]; split <;> omega
theorem trimR_zero {c : UInt8} {s : Byt} : ∀ {n}, n ≤ s.length → (trimR c s n = 0 ↔ ∀ x ∈ s.take n, x = c)
  | 0, _ => by simp [trimR]
  | n + 1, h => by
    have hg : s.getD n 0 = s[n] := by simp [show n < s.length by omega]
    have ih := trimR_zero (c := c) (s := s) (n := n) (by omega)
    rw [trimR, hg, List.take_succ_eq_append_getElem (by omega)]
    by_cases e : s[n] = c
    · rw [if_pos e, ih]
      simp only [List.mem_append, List.mem_singleton, e]
      exact ⟨fun h x hx => hx.elim (h x) id, fun h x hx => h x (.inl hx)⟩
    · rw [if_neg e]
      exact ⟨fun h => absurd h (Nat.succ_ne_zero _), fun h => absurd (h s[n] (List.mem_append.2 (.inr (List.mem_singleton.2 rfl)))) e⟩
theorem by_trimR (b o cp n : Nat) (c : UInt8) (s : Byt) (L : List HP) (hn : n = s.length) (hb : n ≤ 1000000) (hcp : n ≤ cp) (r : RdS 1 (some ⟨b, o, none⟩) n (s.map u8V) L) :
    TriE Tryd.prog 108 #[.slice (some ⟨b, o, none⟩) n cp, u8V c] (fun v M => v = .slice (some ⟨b, o, none⟩) (trimR c s n) cp ∧ M = L) L := by
  refine Tri.of (N := 24) (args := [.slice (some ⟨b, o, none⟩) n cp, u8V c]) Tryd.func108 rfl rfl rfl ?_
  have hlt := c.toNat_lt
  refine go ?_
  refine W.loopS 8388577 rfl (fun i : Nat => [(0, .slice (some ⟨b, o, none⟩) i cp)]) (fun _ => L) (fun i => i ≤ n ∧ trimR c s i = trimR c s n) (fun i => i) n ⟨rfl, trivial⟩ ⟨Nat.le_refl _, rfl⟩ (Ent.app (Ent.refl _)) ?_
  rintro i bg ⟨hi, ht⟩
  cases i with
  | zero =>
    rw [← ht]
    refine go ?_
    exact ⟨rfl, [_], ⟨Res.tmp rfl, trivial⟩, _, ent, rfl, rfl⟩
  | succ i =>
    have hg : (s.map u8V)[i]? = some (u8V (s.getD i 0)) := by simp [show i < s.length by omega]
    have hlt2 := (s.getD i 0).toNat_lt
    by_cases e : s.getD i 0 = c
    · rw [trimR, if_pos e] at ht
      refine go ?_
      refine WO.sv rfl ?_
      refine SV.loadR i rfl rds (by omega) hg ?_
      rw [e]
      refine go ?_
      refine WO.sv rfl ?_
      refine SV.cut (l := 0) (h := i) rfl rfl (cutAt.of rfl (by omega)) (Nat.zero_le _) (by omega) ?_
      intro off' ho
      rw [ho (.inr rfl)]
      refine go ?_
      exact ⟨i, ⟨rfl, trivial⟩, rfl, ⟨by omega, ht⟩, Nat.lt_succ_self _, Ent.app (Ent.refl _)⟩
    · rw [trimR, if_neg e] at ht
      have e' : (s.getD i 0).toNat ≠ c.toNat := fun h => e (UInt8.toNat_inj.1 h)
      rw [← ht]
      refine go ?_
      refine WO.sv rfl ?_
      refine SV.loadR i rfl rds (by omega) hg ?_
      dsimp only [u8V]
      refine go ?_
      exact ⟨rfl, [_], ⟨Res.tmp rfl, trivial⟩, _, ent, rfl, rfl⟩
end Go.SL

/- Layer 8: marks: whether all bytes are 0. -/
namespace Go.SL
open Go.Proofs
set_option linter.unusedVariables false
set_option linter.unusedSimpArgs false
set_option maxRecDepth 10000
set_option maxHeartbeats 4000000
attribute [local irreducible] W WO SV OW SW Tri Ent Tk Has Src SrcK DA DB RdS Own

/-- From the left, of bytes the last of which stays. -/
theorem by_trimL (b o cp n : Nat) (c : UInt8) (s : Byt) (L : List HP) (hn : n ≤ s.length) (hb : s.length ≤ 1000000) (hcp : n ≤ cp) (r : RdS 1 (some ⟨b, o, none⟩) s.length (s.map u8V) L) (hl2 : n ≠ 0 → s.getD (n - 1) 0 ≠ c) :
    TriE Tryd.prog 107 #[.slice (some ⟨b, o, none⟩) n cp, u8V c] (fun v M => (∃ a' m c', v = .slice a' m c' ∧ (m = 0 ↔ n = 0)) ∧ M = L) L := by
  refine Tri.of (N := 21) (args := [.slice (some ⟨b, o, none⟩) n cp, u8V c]) Tryd.func107 rfl rfl rfl ?_
  have hlt := c.toNat_lt
  by_cases h0 : n = 0
  · subst h0
    refine go ?_
    refine W.loopS 131041 rfl (fun i : Nat => [(0, .slice (some ⟨b, o, none⟩) 0 cp)]) (fun _ => L) (fun i => True) (fun i => 0) 0 ⟨rfl, trivial⟩ trivial (Ent.app (Ent.refl _)) ?_
    intro i bg _
    refine go ?_
    exact ⟨rfl, [_], ⟨Res.tmp rfl, trivial⟩, _, ent, ⟨_, _, _, rfl, Iff.rfl⟩, rfl⟩
  refine go ?_
  refine W.loopS 131041 rfl (fun i : Nat => [(0, .slice (some ⟨b, o + i, none⟩) (n - i) (cp - i))]) (fun _ => L) (fun i => i < n) (fun i => n - i) 0 ⟨rfl, trivial⟩ (by omega) (Ent.app (Ent.refl _)) ?_
  intro i bg hi
  have hg : (s.map u8V)[i]? = some (u8V (s.getD i 0)) := by simp [show i < s.length by omega]
  have hlt2 := (s.getD i 0).toNat_lt
  by_cases e : s.getD i 0 = c
  · have hi2 : i + 1 < n := by
      rcases Nat.lt_or_ge (i + 1) n with h | h
      · exact h
      · obtain rfl : i = n - 1 := by omega
        exact absurd e (hl2 h0)
    refine go ?_
    refine WO.sv rfl ?_
    refine SV.loadR i rfl rds (by omega) hg ?_
    rw [e]
    refine go ?_
    refine WO.sv rfl ?_
    refine SV.cut (l := 1) (h := n - i) rfl (cutAt.of rfl rfl) rfl (by omega) (by omega) ?_
    intro off' ho
    rw [ho (.inl (by omega))]
    refine go ?_
    exact ⟨i + 1, ⟨by show Value.slice _ _ _ = _; congr 1, trivial⟩, rfl, hi2, by omega, Ent.app (Ent.refl _)⟩
  · have e' : (s.getD i 0).toNat ≠ c.toNat := fun h => e (UInt8.toNat_inj.1 h)
    refine go ?_
    refine WO.sv rfl ?_
    refine SV.loadR i rfl rds (by omega) hg ?_
    dsimp only [u8V]
    refine go ?_
    exact ⟨rfl, [_], ⟨Res.tmp rfl, trivial⟩, _, ent, ⟨_, _, _, rfl, by omega⟩, rfl⟩
theorem trimR_last {c : UInt8} {s : Byt} : ∀ {n}, trimR c s n ≠ 0 → s.getD (trimR c s n - 1) 0 ≠ c
  | 0, h => absurd rfl h
  | n + 1, h => by
    rw [trimR] at h ⊢
    by_cases e : s.getD n 0 = c
    · rw [if_pos e] at h ⊢; exact trimR_last h
    · rw [if_neg e]; exact e
theorem mk_zero (b o cp : Nat) (s : Byt) (L : List HP) (hb : s.length ≤ 1000000) (hcp : s.length ≤ cp) (r : RdS 1 (some ⟨b, o, none⟩) s.length (s.map u8V) L) :
    TriE Tryd.prog 86 #[.slice (some ⟨b, o, none⟩) s.length cp] (fun v M => v = .bool (decide (∀ x ∈ s, x = 0)) ∧ M = L) L := by
  have htrim : TriE Tryd.prog 101 #[.slice (some ⟨b, o, none⟩) s.length cp, .string ⟨([0] : List UInt8).toArray⟩] (fun v M => (∃ a' m c', v = .slice a' m c' ∧ (m = 0 ↔ ∀ x ∈ s, x = 0)) ∧ M = L) L := by
    have hz := trimR_zero (c := 0) (s := s) (n := s.length) (Nat.le_refl _)
    rw [List.take_length] at hz
    have hle := trimR_le 0 s s.length
    refine Tri.of (N := 42) (args := [.slice (some ⟨b, o, none⟩) s.length cp, .string ⟨([0] : List UInt8).toArray⟩]) Tryd.func101 rfl rfl rfl ?_
    by_cases h0 : s.length = 0
    · refine go ?_
      refine ⟨rfl, [_], ⟨Res.tmp rfl, trivial⟩, L, ent, ⟨_, _, _, rfl, ?_⟩, rfl⟩
      have : s = [] := List.eq_nil_of_length_eq_zero h0
      subst this
      simp
    refine go ?_
    refine WO.sv rfl ?_
    refine SV.eqlSF rfl rfl (by decide) ?_
    refine go ?_
    refine WO.sv rfl ?_
    refine SV.indexS (s := [0]) (c := 0) rfl rfl (by decide) rfl ?_
    refine go ?_
    refine W.drawB #[0, 0, 2, 7, 0, 16, 63, 127] [] L rfl (by kernel_rfl) (by kernel_rfl) (by kernel_rfl) (Ent.refl _) ?_
    refine go ?_
    refine DB.q (v := u8V 0) rfl rfl hl (SV.indexS (s := [0]) (c := 0) rfl rfl (by decide) rfl eqq) ?_
    refine go ?_
    refine DB.callE (vs := [.slice (some ⟨b, o, none⟩) s.length cp, u8V 0]) Tryd.func108 rfl rfl rfl rfl hl hl (by_trimR b o cp s.length 0 s L rfl hb hcp r) ?_
    rintro v M ⟨rfl, rfl⟩
    refine ⟨[], _, Ent.refl _, ?_⟩
    refine go ?_
    refine DB.q (v := u8V 0) rfl rfl hl (SV.indexS (s := [0]) (c := 0) rfl rfl (by decide) rfl eqq) ?_
    refine go ?_
    refine DB.callE (vs := [.slice (some ⟨b, o, none⟩) (trimR 0 s s.length) cp, u8V 0]) Tryd.func107 rfl rfl rfl rfl hl hl (by_trimL b o cp (trimR 0 s s.length) 0 s _ hle hb (by omega) r trimR_last) ?_
    rintro v M ⟨⟨a', m, c', rfl, hm⟩, rfl⟩
    refine ⟨[], _, Ent.refl _, ?_⟩
    refine go ?_
    refine ⟨_, Ent.refl _, ?_⟩
    refine go ?_
    exact ⟨rfl, [_], ⟨Res.tmp rfl, trivial⟩, _, ent, ⟨_, _, _, rfl, hm.trans hz⟩, rfl⟩
  refine Tri.of (N := 7) (args := [.slice (some ⟨b, o, none⟩) s.length cp]) Tryd.func86 rfl rfl rfl ?_
  refine go ?_
  refine WO.callE (vs := [.slice (some ⟨b, o, none⟩) s.length cp, .string ⟨([0] : List UInt8).toArray⟩]) Tryd.func101 rfl rfl rfl rfl htrim ?_
  rintro v M ⟨⟨a', m, c', rfl, hm⟩, rfl⟩
  by_cases e : m = 0
  · rw [decide_eq_true (hm.1 e)]
    refine go ?_
    exact ⟨rfl, [_], ⟨Res.tmp rfl, trivial⟩, _, ent, rfl, rfl⟩
  · rw [decide_eq_false (fun h => e (hm.2 h))]
    refine go ?_
    exact ⟨rfl, [_], ⟨Res.tmp rfl, trivial⟩, _, ent, rfl, rfl⟩
end Go.SL

/- Layer 8: marks: reading one. -/
namespace Go.SL
open Go.Proofs
set_option linter.unusedVariables false
set_option linter.unusedSimpArgs false
set_option maxRecDepth 10000
set_option maxHeartbeats 4000000
attribute [local irreducible] W WO SV OW SW Tri Ent Tk Has Src SrcK DA DB RdS Own

/-- The number of k bytes from the i-th on. -/
def nbe (s : Byt) (i : Nat) : Nat → Nat
  | 0 => 0
  | k + 1 => nbe s i k * 256 + (s.getD (i + k) 0).toNat
theorem nbe_lt (s : Byt) (i : Nat) : ∀ k, nbe s i k < 256 ^ k
  | 0 => by simp [nbe]
  | k + 1 => by
    have h1 := nbe_lt s i k
    have h2 := (s.getD (i + k) 0).toNat_lt
    rw [nbe, Nat.pow_succ]
    omega
theorem nbe_56 (s : Byt) (i k : Nat) (h : k ≤ 7) : nbe s i k < 72057594037927936 :=
  Nat.lt_of_lt_of_le (nbe_lt s i k) (Nat.le_trans (Nat.pow_le_pow_right (by decide) h) (by decide))
theorem nbe_64 (s : Byt) (i : Nat) : nbe s i 8 < 18446744073709551616 := nbe_lt s i 8
theorem u64_wrap (x : Nat) (h : x < 18446744073709551616) : IntKind.wrap .u64 (x : Int) = x := by
  show (x : Int) % 18446744073709551616 = x
  omega
theorem u64_or (e : Nat) (c : UInt8) (he : e < 72057594037927936) : IntKind.wrap .u64 ((((((e * 256 : Nat) : Int)) % 2 ^ IntKind.bits .u64).toNat ||| (((c.toNat : Int)) % 2 ^ IntKind.bits .u64).toNat : Nat) : Int) = ((e * 256 + c.toNat : Nat) : Int) := by
  have hc := c.toNat_lt
  have h1 : (((e * 256 : Nat) : Int) % 2 ^ IntKind.bits .u64).toNat = 2 ^ 8 * e := by
    show (((e * 256 : Nat) : Int) % 18446744073709551616).toNat = _
    omega
  have h2 : ((c.toNat : Int) % 2 ^ IntKind.bits .u64).toNat = c.toNat := by
    show ((c.toNat : Int) % 18446744073709551616).toNat = _
    omega
  rw [h1, h2, ← Nat.two_pow_add_eq_or_of_lt (by omega), u64_wrap _ (by omega)]
  congr 1
  omega
theorem u64_shl8 (e : Nat) (he : e < 72057594037927936) : IntKind.wrap .u64 ((e : Int) * 2 ^ (min (8 : Int).toNat (IntKind.bits .u64))) = ((e * 256 : Nat) : Int) := by
  have : (e : Int) * 2 ^ (min (8 : Int).toNat (IntKind.bits .u64)) = ((e * 256 : Nat) : Int) := by
    show (e : Int) * 256 = _
    omega
  rw [this, u64_wrap _ (by omega)]

theorem mk_read (b o n cp : Nat) (s : Byt) (L : List HP) (hn : n = s.length) (h17 : 17 ≤ n) (hb : n ≤ 1000000) (r : RdS 1 (some ⟨b, o, none⟩) n (s.map u8V) L) :
    TriE Tryd.prog 85 #[.slice (some ⟨b, o, none⟩) n cp] (fun v M => v = .agg (mkL (s.getD 0 0) (nbe s 1 8) (nbe s 9 8)).toArray ∧ M = L) L := by
  have hget : ∀ i, i < n → (s.map u8V)[i]? = some (u8V (s.getD i 0)) := fun i hi => by simp [show i < s.length by omega]
  refine Tri.of (N := 35) (args := [.slice (some ⟨b, o, none⟩) n cp]) Tryd.func85 rfl rfl rfl ?_
  refine go ?_
  intro b2
  refine go ?_
  refine WO.sv rfl ?_
  refine SV.loadR 0 rfl rds (by omega) (hget 0 (by omega)) ?_
  refine go ?_
  refine W.loopS 17179868936 rfl (fun j : Nat => [(8, .int .i64 j)]) (fun j => pts b2 (.cells [u8V (s.getD 0 0), .int .u64 (nbe s 1 j), .int .u64 (nbe s 9 j)].toArray 123) :: L)
    (fun j => j ≤ 8) (fun j => 8 - j) 0 ⟨rfl, trivial⟩ (Nat.zero_le _) (Ent.app ent) ?_
  intro j bg hj
  by_cases h8 : j < 8
  · have e1 := nbe_56 s 1 j (by omega)
    have e2 := nbe_56 s 9 j (by omega)
    have n1 : nbe s 1 (j + 1) = nbe s 1 j * 256 + (s.getD (1 + j) 0).toNat := rfl
    have n2 : nbe s 9 (j + 1) = nbe s 9 j * 256 + (s.getD (9 + j) 0).toNat := rfl
    have hc1 := (s.getD (1 + j) 0).toNat_lt
    have hc2 := (s.getD (9 + j) 0).toNat_lt
    have g1 := hget (1 + j) (by omega)
    have g2 := hget (9 + j) (by omega)
    generalize nbe s 1 j = x1 at *
    generalize nbe s 9 j = x2 at *
    generalize s.getD (1 + j) 0 = y1 at *
    generalize s.getD (9 + j) 0 = y2 at *
    refine go ?_
    refine W.drawA rfl (by kernel_rfl) (by kernel_rfl) ?_
    refine go ?_
    refine DA.q (v := .int .u64 ((x1 * 256 : Nat) : Int)) rfl rfl (SV.shl rfl rfl (by decide) (u64_shl8 x1 e1) eqq) ?_
    refine go ?_
    refine DA.q (v := u8V y1) rfl rfl (SV.loadR (1 + j) rfl rds (by omega) g1 eqq) ?_
    refine go ?_
    refine DA.q (v := .int .u64 ((x1 * 256 + y1.toNat : Nat) : Int)) rfl rfl (SV.bor rfl rfl (u64_or x1 y1 e1) eqq) ?_
    refine go ?_
    refine DA.v rfl rfl rfl ?_
    refine SV.store rfl rfl cel rfl rfl rfl frz le0 nl ?_
    refine go ?_
    refine W.drawA rfl (by kernel_rfl) (by kernel_rfl) ?_
    refine go ?_
    refine DA.q (v := .int .u64 ((x2 * 256 : Nat) : Int)) rfl rfl (SV.shl rfl rfl (by decide) (u64_shl8 x2 e2) eqq) ?_
    refine go ?_
    refine DA.q (v := u8V y2) rfl rfl (SV.loadR (9 + j) rfl rds (by omega) g2 eqq) ?_
    refine go ?_
    refine DA.q (v := .int .u64 ((x2 * 256 + y2.toNat : Nat) : Int)) rfl rfl (SV.bor rfl rfl (u64_or x2 y2 e2) eqq) ?_
    refine go ?_
    refine DA.v rfl rfl rfl ?_
    refine SV.store rfl rfl cel rfl rfl rfl frz le0 nl ?_
    refine go ?_
    refine ⟨j + 1, ⟨rfl, trivial⟩, rfl, by omega, by omega, Ent.app ?_⟩
    rw [n1, n2]
    exact ent
  · obtain rfl : j = 8 := by omega
    refine go ?_
    exact ⟨rfl, [_], ⟨Res.cell rfl le0 nl, trivial⟩, _, ent, rfl, rfl⟩
end Go.SL

/- Layer 1: numbers as bytes: the plain law. -/
namespace Go.SL
set_option linter.unusedVariables false
set_option linter.unusedSimpArgs false

/-- How many bytes a number takes. -/
def nbyF : Nat → Nat → Nat
  | 0, _ => 0
  | f + 1, v => if v = 0 then 0 else nbyF f (v / 256) + 1
def nby (v : Nat) : Nat := nbyF 9 v
/-- The last n bytes of a number. -/
def bytesN (v n : Nat) : Byt := (List.range n).map fun t => UInt8.ofNat (v / 256 ^ (n - 1 - t))
def encN (v : Nat) : Byt := UInt8.ofNat (nby v) :: bytesN v (nby v)
@[simp] theorem bytesN_len (v n : Nat) : (bytesN v n).length = n := by simp [bytesN]
theorem nbyF_spec : ∀ (f v : Nat), v < 256 ^ f → v < 256 ^ nbyF f v ∧ (nbyF f v ≠ 0 → 256 ^ (nbyF f v - 1) ≤ v) ∧ nbyF f v ≤ f
  | 0, v, h => ⟨by simpa [nbyF] using h, fun h => absurd rfl h, Nat.le_refl _⟩
  | f + 1, v, h => by
    unfold nbyF
    by_cases h0 : v = 0
    · rw [if_pos h0]; subst h0; exact ⟨by simp, fun h => absurd rfl h, Nat.zero_le _⟩
    · rw [if_neg h0]
      have hd : v / 256 < 256 ^ f := by rw [Nat.pow_succ] at h; omega
      obtain ⟨a, b, c⟩ := nbyF_spec f (v / 256) hd
      refine ⟨by rw [Nat.pow_succ]; omega, fun _ => ?_, by omega⟩
      show 256 ^ (nbyF f (v / 256)) ≤ v
      by_cases hz : nbyF f (v / 256) = 0
      · rw [hz]; simp; omega
      · have := b hz
        obtain ⟨m, hm⟩ : ∃ m, nbyF f (v / 256) = m + 1 := ⟨nbyF f (v / 256) - 1, by omega⟩
        rw [hm] at this ⊢
        rw [Nat.pow_succ]
        simp only [Nat.add_sub_cancel] at this
        omega
theorem nby_spec {v : Nat} (h : v < 18446744073709551616) : v < 256 ^ nby v ∧ (nby v ≠ 0 → 256 ^ (nby v - 1) ≤ v) ∧ nby v ≤ 8 := by
  obtain ⟨a, b, c⟩ := nbyF_spec 9 v (Nat.lt_of_lt_of_le h (by decide))
  refine ⟨a, b, ?_⟩
  refine Classical.byContradiction fun hc => ?_
  have e : nby v = 9 := by unfold nby at hc ⊢; omega
  have := b (by unfold nby at e; omega)
  unfold nby at e
  rw [e] at this
  have h2 : (256 : Nat) ^ (9 - 1) = 18446744073709551616 := by decide
  omega
theorem nby_of {v n : Nat} (hv : v < 18446744073709551616) (h1 : v < 256 ^ n) (h2 : n ≠ 0 → 256 ^ (n - 1) ≤ v) : nby v = n := by
  obtain ⟨a, b, _⟩ := nby_spec hv
  have key : ∀ p q : Nat, v < 256 ^ p → (q ≠ 0 → 256 ^ (q - 1) ≤ v) → q ≤ p := by
    intro p q hp hq
    refine Classical.byContradiction fun hc => ?_
    have h3 := hq (by omega)
    have h4 : 256 ^ p ≤ 256 ^ (q - 1) := Nat.pow_le_pow_right (by decide) (by omega)
    omega
  exact Nat.le_antisymm (key n (nby v) h1 b) (key (nby v) n a h2)
theorem nby_pos {v k : Nat} (hv : v < 18446744073709551616) : v / 256 ^ k = 0 ↔ nby v ≤ k := by
  obtain ⟨a, b, _⟩ := nby_spec hv
  have hp : 0 < 256 ^ k := Nat.pow_pos (by decide)
  constructor
  · intro h
    refine Classical.byContradiction fun hc => ?_
    have h3 := b (by omega)
    have h4 : 256 ^ k ≤ 256 ^ (nby v - 1) := Nat.pow_le_pow_right (by decide) (by omega)
    have h5 : v < 256 ^ k := by
      rw [Nat.div_eq_zero_iff] at h
      rcases h with h | h
      · omega
      · exact h
    omega
  · intro h
    exact Nat.div_eq_of_lt (Nat.lt_of_lt_of_le a (Nat.pow_le_pow_right (by decide) h))
theorem bytesN_succ (v k : Nat) : bytesN v (k + 1) = [UInt8.ofNat (v / 256 ^ k)] ++ bytesN v k := by
  unfold bytesN
  rw [List.range_succ_eq_map, List.map_cons, List.map_map, List.singleton_append]
  congr 1
  apply List.map_congr_left
  intro t ht
  rw [List.mem_range] at ht
  show UInt8.ofNat (v / 256 ^ (k + 1 - 1 - (t + 1))) = _
  congr 3
  omega
theorem bytesN_get {v n j : Nat} (h : j < n) : (bytesN v n)[j]? = some (UInt8.ofNat (v / 256 ^ (n - 1 - j))) := by
  unfold bytesN
  rw [List.getElem?_map, List.getElem?_range h]; rfl
theorem bytesN_take {v n j : Nat} (h : j < n) : (bytesN v n).take (j + 1) = (bytesN v n).take j ++ [UInt8.ofNat (v / 256 ^ (n - 1 - j))] := by
  have hl : j < (bytesN v n).length := by simpa using h
  rw [List.take_succ_eq_append_getElem hl]
  congr 2
  have := bytesN_get (v := v) h
  rw [List.getElem?_eq_getElem hl] at this
  exact Option.some.inj this
/-- What is read back. -/
theorem nbe_bytes (v : Nat) (q : Byt) : ∀ n k, k ≤ n → nbe (bytesN v n ++ q) 0 k = v % 256 ^ n / 256 ^ (n - k)
  | n, 0, _ => by
    rw [nbe, Nat.sub_zero, Nat.div_eq_of_lt (Nat.mod_lt _ (Nat.pow_pos (by decide)))]
  | n, k + 1, h => by
    have ih := nbe_bytes v q n k (by omega)
    have hg : (bytesN v n ++ q).getD (0 + k) 0 = UInt8.ofNat (v / 256 ^ (n - 1 - k)) := by
      rw [Nat.zero_add, List.getD_eq_getElem?_getD, List.getElem?_append_left (by simp; omega), bytesN_get (by omega)]; rfl
    rw [nbe, ih, hg, UInt8.toNat_ofNat', show n - (k + 1) = n - 1 - k by omega]
    obtain ⟨m, hm⟩ : ∃ m, n - 1 - k = m := ⟨_, rfl⟩
    have e1 : n - k = m + 1 := by omega
    have e2 : n = (k + 1) + m := by omega
    rw [hm, e1, Nat.pow_succ, ← Nat.div_div_eq_div_mul]
    have e3 : v % 256 ^ n / 256 ^ m = v / 256 ^ m % 256 ^ (k + 1) := by
      rw [e2, Nat.pow_add, Nat.mul_comm, Nat.mod_mul_right_div_self]
    rw [e3]
    have e4 : v / 256 ^ m % 2 ^ 8 = v / 256 ^ m % 256 ^ (k + 1) % 256 := by
      rw [Nat.mod_mod_of_dvd _ ⟨256 ^ k, by rw [Nat.pow_succ, Nat.mul_comm]⟩]
    rw [e4]
    omega
theorem nbe_enc {v : Nat} (hv : v < 18446744073709551616) (q : Byt) : nbe (bytesN v (nby v) ++ q) 0 (nby v) = v := by
  rw [nbe_bytes v q (nby v) (nby v) (Nat.le_refl _), Nat.sub_self, Nat.pow_zero, Nat.div_one]
  exact Nat.mod_eq_of_lt (nby_spec hv).1
theorem enc_head {v : Nat} (hv : v < 18446744073709551616) (h0 : nby v ≠ 0) : (bytesN v (nby v)).getD 0 0 ≠ 0 := by
  obtain ⟨a, b, c⟩ := nby_spec hv
  have h1 := b h0
  rw [List.getD_eq_getElem?_getD, bytesN_get (by omega)]
  intro h
  have := congrArg UInt8.toNat h
  rw [Option.getD_some, UInt8.toNat_ofNat', Nat.sub_zero] at this
  have h3 : v / 256 ^ (nby v - 1) < 256 := by
    rw [Nat.div_lt_iff_lt_mul (Nat.pow_pos (by decide)), ← Nat.pow_succ', show (nby v - 1).succ = nby v by omega]
    exact a
  have h4 : 1 ≤ v / 256 ^ (nby v - 1) := by
    rw [Nat.le_div_iff_mul_le (Nat.pow_pos (by decide)), Nat.one_mul]; exact h1
  have h5 : (0 : UInt8).toNat = 0 := rfl
  rw [h5] at this
  omega
theorem encN_len {v : Nat} (hv : v < 18446744073709551616) : (encN v).length ≤ 9 := by
  unfold encN
  have := (nby_spec hv).2.2
  simp; omega

/-! ### Reading -/
/-- What is left, and the first error. -/
structure LI where
  b : Byt
  bad : Nat
def LI.no (i : LI) (e : Nat) : LI := ⟨[], if i.bad = 0 then e else i.bad⟩
/-- A number. -/
def LI.num (i : LI) : LI × Nat :=
  if i.bad ≠ 0 then (i, 0)
  else match i.b with
    | [] => (i.no 10, 0)
    | c :: r =>
      if 8 < c.toNat then (i.no 11, 0)
      else if r.length < c.toNat then (i.no 10, 0)
      else if 0 < c.toNat ∧ r.getD 0 0 = 0 then (i.no 11, 0)
      else (⟨r.drop c.toNat, 0⟩, nbe r 0 c.toNat)
/-- One that is not above a greatest. -/
def LI.small (i : LI) (most : Nat) : LI × Nat :=
  if i.num.1.bad = 0 ∧ most < i.num.2 then (i.num.1.no 3, 0) else i.num
def LI.fin (i : LI) : Nat := if i.bad = 0 ∧ i.b ≠ [] then 11 else i.bad
theorem LI.num_enc {v : Nat} (hv : v < 18446744073709551616) (q : Byt) : (LI.mk (encN v ++ q) 0).num = (⟨q, 0⟩, v) := by
  have h8 := (nby_spec hv).2.2
  have hc : (UInt8.ofNat (nby v)).toNat = nby v := by rw [UInt8.toNat_ofNat']; omega
  unfold LI.num encN
  rw [if_neg (by simp)]
  simp only [List.cons_append, hc]
  rw [if_neg (by omega), if_neg (by simp), if_neg ?_]
  · rw [nbe_enc hv]
    congr 2
    rw [List.drop_append_of_le_length (by simp), List.drop_eq_nil_of_le (by simp), List.nil_append]
  · rintro ⟨h1, h2⟩
    refine enc_head hv (by omega) ?_
    rw [List.getD_eq_getElem?_getD, List.getElem?_append_left (by simpa using h1)] at h2
    rw [List.getD_eq_getElem?_getD]
    exact h2
theorem LI.num_lt (i : LI) : i.num.2 < 18446744073709551616 := by
  have hz : (0 : Nat) < 18446744073709551616 := by decide
  unfold LI.num
  split
  · exact hz
  · split
    · exact hz
    · split
      · exact hz
      · split
        · exact hz
        · split
          · exact hz
          · rename_i c r _ h1 _ _
            exact Nat.lt_of_lt_of_le (nbe_lt r 0 c.toNat) (Nat.le_trans (Nat.pow_le_pow_right (by decide) (show c.toNat ≤ 8 by omega)) (by decide))
theorem LI.num_bad (i : LI) (h : i.num.1.bad ≠ 0) : i.num.2 = 0 := by
  revert h
  unfold LI.num
  split
  · exact fun _ => rfl
  · split
    · exact fun _ => rfl
    · split
      · exact fun _ => rfl
      · split
        · exact fun _ => rfl
        · split
          · exact fun _ => rfl
          · exact fun h => absurd rfl h
theorem LI.num_len (i : LI) : i.num.1.b.length ≤ i.b.length := by
  unfold LI.num LI.no
  split
  · exact Nat.le_refl _
  · split
    · simp
    · split
      · simp
      · split
        · simp
        · split
          · simp
          · rename_i c r e _ _ _
            simp [e]; omega
theorem LI.small_enc {v m : Nat} (hv : v < 18446744073709551616) (hm : v ≤ m) (q : Byt) : (LI.mk (encN v ++ q) 0).small m = (⟨q, 0⟩, v) := by
  unfold LI.small
  rw [LI.num_enc hv, if_neg]
  rintro ⟨_, h⟩
  exact absurd h (by omega)
end Go.SL

/- Layer 32 (script): numbers and texts of lines, walked. -/
namespace Go.SL
open Go.Proofs
set_option linter.unusedVariables false
set_option linter.unusedSimpArgs false
set_option linter.unusedSectionVars false
set_option maxRecDepth 10000
set_option maxHeartbeats 4000000
attribute [local irreducible] W WO SV OW SW Tri Ent Tk Has Src SrcK DA DB DP RdS Own OwnT MapH

theorem u8V_dgt (n : Nat) (h : n < 10) : Value.int .u8 (48 + (n : Int)) = u8V (dgt n) := by
  rw [u8V, dgt_nat h]; congr 1
theorem sc_digits : ∀ (n : Nat) (L : List HP), n ≤ 1000000000000 → TriE Tryd.prog 27 #[.int .i64 n] (fun v M => v = strV (dg n) ∧ M = L) L := by
  intro n
  induction n using Nat.strongRecOn with
  | ind n ih =>
    intro L hn
    refine Tri.of (N := 17) (args := [.int .i64 n]) Tryd.func27 rfl rfl rfl ?_
    by_cases h : n < 10
    · refine go ?_
      refine WO.sv rfl ?_
      refine SV.lit rfl rfl rfl parts rfl nl ?_
      intro b2
      rw [u8V_dgt n h]
      refine go ?_
      refine WO.sv rfl ?_
      refine SV.toStrR rfl (bs := [dgt n]) (RdS.all (sz := 1) (n := 1) rfl) ?_
      refine go ?_
      exact ⟨rfl, [_], ⟨Res.tmp rfl, trivial⟩, L, ent, by rw [dg_lt h]; rfl, rfl⟩
    · refine go ?_
      refine WO.callE (vs := [.int .i64 ((n / 10 : Nat) : Int)]) Tryd.func27 rfl rfl rfl rfl (ih (n / 10) (by omega) L (by omega)) ?_
      rintro v M ⟨rfl, rfl⟩
      refine go ?_
      refine WO.callE (vs := [.int .i64 ((n % 10 : Nat) : Int)]) Tryd.func27 rfl rfl rfl rfl (ih (n % 10) (by omega) _ (by omega)) ?_
      rintro v M ⟨rfl, rfl⟩
      have h1 : (dg (n / 10)).length ≤ 20 := dg_len20 (by omega)
      have h2 : (dg (n % 10)).length ≤ 20 := dg_len20 (by omega)
      refine go ?_
      refine WO.sv rfl ?_
      refine SV.concat rfl rfl (by omega) ?_
      refine go ?_
      refine ⟨rfl, [_], ⟨Res.tmp rfl, trivial⟩, _, ent, ?_, rfl⟩
      rw [dg_ge h, dg_lt (show n % 10 < 10 by omega)]; rfl
theorem sc_small (n : Int) (L : List HP) : TriE Tryd.prog 32 #[.int .i64 n] (fun v M => v = .bool (decide (okN n)) ∧ M = L) L := by
  refine Tri.of (N := 9) (args := [.int .i64 n]) Tryd.func32 rfl rfl rfl ?_
  by_cases h : 0 ≤ n
  · by_cases h2 : n < 2147483648
    · refine go ?_
      exact ⟨rfl, [_], ⟨Res.tmp rfl, trivial⟩, L, ent, by rw [decide_eq_true (show okN n from ⟨h, h2⟩)]; rfl, rfl⟩
    · refine go ?_
      exact ⟨rfl, [_], ⟨Res.tmp rfl, trivial⟩, L, ent, by rw [decide_eq_false (show ¬okN n from fun z => h2 z.2)]; rfl, rfl⟩
  · refine go ?_
    exact ⟨rfl, [_], ⟨Res.tmp rfl, trivial⟩, L, ent, by rw [decide_eq_false (show ¬okN n from fun z => h z.1)]; rfl, rfl⟩
theorem hexStr : (hexL : BL) = [48, 49, 50, 51, 52, 53, 54, 55, 56, 57, 97, 98, 99, 100, 101, 102] := rfl
theorem sc_hex (s : BL) (L : List HP) (hs : s.length ≤ 100000) : TriE Tryd.prog 29 #[strV s] (fun v M => v = strV (hexT s) ∧ M = L) L := by
  refine Tri.of (N := 28) (args := [strV s]) Tryd.func29 rfl rfl rfl ?_
  by_cases h : s = []
  · subst h
    refine go ?_
    refine WO.sv rfl ?_
    refine SV.eqlST (a := []) (b := []) rfl rfl rfl ?_
    refine go ?_
    exact ⟨rfl, [_], ⟨Res.tmp rfl, trivial⟩, L, ent, rfl, rfl⟩
  refine go ?_
  refine WO.sv rfl ?_
  refine SV.eqlSF (a := s) (b := []) rfl rfl h ?_
  refine go ?_
  refine W.loopS 67108376 rfl (fun q : Nat × Option Addr × Nat => [(3, .slice q.2.1 ((s.take q.1).flatMap hxb).length q.2.2), (9, .int .i64 (q.1 : Int))]) (fun q => OY q.2.1 q.2.2 ((s.take q.1).flatMap hxb) :: L)
    (fun q => q.1 ≤ s.length ∧ SomeA q.2.1 ((s.take q.1).flatMap hxb).length) (fun q => s.length - q.1) (0, none, 0) ⟨rfl, rfl, trivial⟩ ⟨Nat.zero_le _, fun z => absurd rfl z⟩ (Ent.app (by dsimp only; unfold OY; exact Ent.ownNil ent)) ?_
  rintro ⟨i, a, c⟩ bg ⟨hi, ha⟩
  dsimp only at hi ha ⊢
  have hfl := hxf_len (s.take i)
  rw [List.length_take, Nat.min_eq_left hi] at hfl
  by_cases h2 : i < s.length
  · have hx : s[i]? = some s[i] := List.getElem?_eq_getElem h2
    have hts : (s.take (i + 1)).flatMap hxb = (s.take i).flatMap hxb ++ hxb s[i] := by
      rw [List.take_add_one, hx, Option.toList_some, List.flatMap_append]; simp
    generalize s[i] = ch at hx hts
    have hch := u8_lt ch
    generalize hss : (s.take i).flatMap hxb = u at *
    refine go ?_
    refine W.drawG (fun _ => false) #[0, 0, 0, 6, 14, 30, 0, 0, 192, 448, 960, 2046, 4095, 8191] [] (OY a c u :: L) rfl (by kernel_rfl) (by kernel_rfl) (by kernel_rfl) ent ?_
    refine go ?_
    refine DB.q (v := u8V ch) rfl rfl hl (SV.indexS (s := s) (c := ch) rfl rfl (by omega) hx eqq) ?_
    refine go ?_
    refine DB.q (v := u8V (hxc (ch.toNat / 16))) rfl rfl hl (SV.indexS (s := hexL) (c := hxc (ch.toNat / 16)) rfl rfl (by omega) (by rw [show ((ch.toNat : Int) / 16).toNat = ch.toNat / 16 by omega]; exact hexL_get _ (by omega)) eqq) ?_
    refine go ?_
    refine DB.q (v := u8V ch) rfl rfl hl (SV.indexS (s := s) (c := ch) rfl rfl (by omega) hx eqq) ?_
    refine go ?_
    refine DB.q (v := u8V (hxc (ch.toNat % 16))) rfl rfl hl (SV.indexS (s := hexL) (c := hxc (ch.toNat % 16)) rfl rfl (by omega) (by rw [show ((ch.toNat : Int) % 16).toNat = ch.toNat % 16 by omega]; exact hexL_get _ (by omega)) eqq) ?_
    refine go ?_
    refine DB.litH rfl rfl rfl parts rfl nl rfl rfl ?_
    intro b2
    refine go ?_
    refine DB.v rfl rfl rfl hl hl ?_
    unfold OY
    refine SV.append rfl rfl rfl (Tk.there Tk.here) (RdS.src (RdS.all (sz := 1) (n := 2) rfl)) rfl rfl (by omega) rfl ?_
    intro a' c' ha'
    refine ⟨[], _, Ent.refl _, ?_⟩
    refine go ?_
    refine ⟨Own 5 1 (.slice a' (u.length + 2) c') (u.length + 2) (u.map u8V ++ (hxb ch).map u8V) :: L, ent, ?_⟩
    refine go ?_
    have hul : (u ++ hxb ch).length = u.length + 2 := by rw [List.length_append]; rfl
    refine ⟨(i + 1, a', c'), ⟨by dsimp only; rw [hts, hul]; rfl, rfl, trivial⟩, rfl, ⟨h2, by dsimp only; rw [hts, hul]; exact ha'⟩, by dsimp only; omega, ?_⟩
    dsimp only
    rw [hts, hul, List.map_append]
    exact Ent.app ent
  · obtain rfl : i = s.length := by omega
    rw [List.take_length] at hfl ha ⊢
    refine go ?_
    refine WO.sv rfl ?_
    refine SV.toStrR rfl (bs := s.flatMap hxb) (by unfold OY; exact RdS.ownS Tk.here ha (by simp)) ?_
    refine go ?_
    exact ⟨rfl, [_], ⟨Res.tmp rfl, trivial⟩, L, ent, by rw [hexT_cons h]; rfl, rfl⟩
end Go.SL

/- Layer 32 (script): numbers and texts of lines, read, walked. -/
namespace Go.SL
open Go.Proofs
set_option linter.unusedVariables false
set_option linter.unusedSimpArgs false
set_option linter.unusedSectionVars false
set_option maxRecDepth 10000
set_option maxHeartbeats 4000000
attribute [local irreducible] W WO SV OW SW Tri Ent Tk Has Src SrcK DA DB DP RdS Own OwnT MapH

/-- What is read of a word as a number. -/
def NumP (s : BL) (n : Nat) (ok : Bool) : Prop := n < 2147483648 ∧ (ok = true → s = dg n) ∧ ∀ m, m < 2147483648 → s = dg m → ok = true ∧ n = m
theorem NumP.no {s : BL} (h : ∀ m, m < 2147483648 → s ≠ dg m) : NumP s 0 false := ⟨by decide, fun z => (by cases z), fun m hm e => absurd e (h m hm)⟩
theorem sc_number (s : BL) (L : List HP) (hs : s.length ≤ 100000) : TriE Tryd.prog 39 #[strV s] (fun v M => (∃ (n : Nat) (ok : Bool), v = .tuple #[.int .i64 n, .bool ok] ∧ NumP s n ok) ∧ M = L) L := by
  refine Tri.of (N := 45) (args := [strV s]) Tryd.func39 rfl rfl rfl ?_
  cases s with
  | nil =>
    refine go ?_
    refine WO.sv rfl ?_
    refine SV.eqlST (a := []) (b := []) rfl rfl rfl ?_
    refine go ?_
    exact ⟨rfl, [_, _], ⟨Res.tmp rfl, Res.tmp rfl, trivial⟩, L, ent, ⟨0, false, rfl, NumP.no fun m _ e => dg_ne m e.symm⟩, rfl⟩
  | cons c r =>
    have hc := u8_lt c
    have hl : (c :: r).length = r.length + 1 := rfl
    refine go ?_
    refine WO.sv rfl ?_
    refine SV.eqlSF (a := c :: r) (b := []) rfl rfl (List.cons_ne_nil _ _) ?_
    refine go ?_
    refine WO.sv rfl ?_
    refine SV.indexS (s := c :: r) (c := c) rfl rfl (by decide) rfl ?_
    by_cases hz : c.toNat = 48 ∧ 0 < r.length
    · obtain ⟨z1, z2⟩ := hz
      refine go ?_
      exact ⟨rfl, [_, _], ⟨Res.tmp rfl, Res.tmp rfl, trivial⟩, L, ent, ⟨0, false, rfl, NumP.no fun m _ e => by
        have := dg_head m c r e.symm z1
        subst this; simp at z2⟩, rfl⟩
    have hnz : ∀ c' r', c :: r = c' :: r' → c'.toNat = 48 → r' = [] := fun c' r' e h => by
      injection e with e1 e2
      subst e1; subst e2
      exact List.length_eq_zero_iff.1 (by omega)
    have hlen : (c :: r).length ≤ 100000 := hs
    generalize hss : c :: r = s at *
    have hne : s ≠ [] := by rw [← hss]; exact List.cons_ne_nil _ _
    have hrl : s.length = r.length + 1 := hl
    have hcs : c.toNat ≠ 48 ∨ (c.toNat = 48 ∧ r.length = 0) := by omega
    rcases hcs with z | ⟨z, z2⟩
    all_goals
      refine go ?_
      refine W.loopS 17592184995900 rfl (fun q : Nat × Nat => [(4, .int .i64 (q.2 : Int)), (20, .int .i64 (q.1 : Int))]) (fun _ => L)
        (fun q => q.1 ≤ s.length ∧ (∀ x ∈ s.take q.1, isD x) ∧ q.2 = val (s.take q.1) ∧ q.2 < 2147483648) (fun q => s.length - q.1) (0, 0) ⟨rfl, rfl, trivial⟩ ⟨Nat.zero_le _, by simp, by simp [val], by decide⟩ (Ent.app ent) ?_
      rintro ⟨i, v⟩ bg ⟨hi, hd, hv, hvl⟩
      dsimp only at hi hd hv hvl ⊢
      by_cases h2 : i < s.length
      · have hx : s[i]? = some s[i] := List.getElem?_eq_getElem h2
        have hts : s.take (i + 1) = s.take i ++ [s[i]] := by rw [List.take_add_one, hx]; rfl
        have hmem : s[i] ∈ s := List.getElem_mem _
        generalize s[i] = ch at hx hts hmem
        have hch := u8_lt ch
        have hvs : val (s.take (i + 1)) = v * 10 + (ch.toNat - 48) := by rw [hts, val_snoc, ← hv]
        have hvle := val_le (s.take (i + 1)) (s.drop (i + 1))
        rw [List.take_append_drop] at hvle
        by_cases g1 : ch.toNat < 48
        · refine go ?_
          refine WO.sv rfl ?_
          refine SV.indexS (s := s) (c := ch) rfl rfl (by omega) hx ?_
          refine go ?_
          exact ⟨rfl, [_, _], ⟨Res.tmp rfl, Res.tmp rfl, trivial⟩, L, ent, ⟨0, false, rfl, NumP.no fun m _ e => by
            have := dg_digit m ch (e ▸ hmem)
            unfold isD at this; omega⟩, rfl⟩
        by_cases g2 : 57 < ch.toNat
        · refine go ?_
          refine WO.sv rfl ?_
          refine SV.indexS (s := s) (c := ch) rfl rfl (by omega) hx ?_
          refine go ?_
          refine WO.sv rfl ?_
          refine SV.indexS (s := s) (c := ch) rfl rfl (by omega) hx ?_
          refine go ?_
          exact ⟨rfl, [_, _], ⟨Res.tmp rfl, Res.tmp rfl, trivial⟩, L, ent, ⟨0, false, rfl, NumP.no fun m _ e => by
            have := dg_digit m ch (e ▸ hmem)
            unfold isD at this; omega⟩, rfl⟩
        refine go ?_
        refine WO.sv rfl ?_
        refine SV.indexS (s := s) (c := ch) rfl rfl (by omega) hx ?_
        refine go ?_
        refine WO.sv rfl ?_
        refine SV.indexS (s := s) (c := ch) rfl rfl (by omega) hx ?_
        refine go ?_
        refine WO.sv rfl ?_
        refine SV.indexS (s := s) (c := ch) rfl rfl (by omega) hx ?_
        by_cases g3 : v * 10 + (ch.toNat - 48) < 2147483648
        · refine go ?_
          refine ⟨(i + 1, v * 10 + (ch.toNat - 48)), ⟨congrArg (Value.int .i64) (by omega), rfl, trivial⟩, rfl, ⟨h2, ?_, hvs.symm, g3⟩, by dsimp only; omega, Ent.app ent⟩
          dsimp only
          rw [hts]
          intro x hx2
          rcases List.mem_append.1 hx2 with hx2 | hx2
          · exact hd x hx2
          · rw [List.mem_singleton.1 hx2]; exact ⟨by omega, by omega⟩
        · refine go ?_
          exact ⟨rfl, [_, _], ⟨Res.tmp rfl, Res.tmp rfl, trivial⟩, L, ent, ⟨0, false, rfl, NumP.no fun m hm e => by
            have := val_dg m
            rw [← e] at this; omega⟩, rfl⟩
      · obtain rfl : i = s.length := by omega
        rw [List.take_length] at hd hv
        refine go ?_
        refine ⟨rfl, [_, _], ⟨Res.tmp rfl, Res.tmp rfl, trivial⟩, L, ent, ⟨v, true, rfl, hvl, fun _ => ?_, fun m hm e => ⟨rfl, ?_⟩⟩, rfl⟩
        · rw [hv]; exact (dg_val s hd hne hnz).symm
        · rw [hv, e, val_dg]
end Go.SL

/- Layer 32 (script): texts of lines, read, walked. -/
namespace Go.SL
open Go.Proofs
set_option linter.unusedVariables false
set_option linter.unusedSimpArgs false
set_option linter.unusedSectionVars false
set_option maxRecDepth 10000
set_option maxHeartbeats 4000000
attribute [local irreducible] W WO SV OW SW Tri Ent Tk Has Src SrcK DA DB DP RdS Own OwnT MapH

theorem hexIxN : ∀ n : Fin 256, Lib.indexByte hexL (UInt8.ofNat n.val) = hxi (UInt8.ofNat n.val) := by decide
theorem hexIx (c : UInt8) : Lib.indexByte hexL c = hxi c := by
  have := hexIxN ⟨c.toNat, u8_lt c⟩
  simpa using this
/-- What is read of a word as a text. -/
def TxtP (s t : BL) (ok : Bool) : Prop := t.length ≤ s.length ∧ (ok = true → s = hexT t) ∧ ∀ t', s = hexT t' → ok = true ∧ t = t'
theorem TxtP.no {s : BL} (h : ∀ t, s ≠ hexT t) : TxtP s [] false := ⟨Nat.zero_le _, fun z => (by cases z), fun t e => absurd e (h t)⟩
theorem hx_byte {c d : UInt8} (h : 0 ≤ hxi c) (h' : 0 ≤ hxi d) : ∃ b : UInt8, hxb b = [c, d] ∧ (b.toNat : Int) = hxi c * 16 + hxi d := by
  obtain ⟨h1, h2⟩ := hxc_hxi h
  obtain ⟨h3, h4⟩ := hxc_hxi h'
  have e : (UInt8.ofNat ((hxi c).toNat * 16 + (hxi d).toNat)).toNat = (hxi c).toNat * 16 + (hxi d).toNat := by rw [UInt8.toNat_ofNat']; omega
  refine ⟨UInt8.ofNat ((hxi c).toNat * 16 + (hxi d).toNat), ?_, by rw [e]; omega⟩
  unfold hxb
  rw [e, show ((hxi c).toNat * 16 + (hxi d).toNat) / 16 = (hxi c).toNat by omega, show ((hxi c).toNat * 16 + (hxi d).toNat) % 16 = (hxi d).toNat by omega, h2, h4]
theorem sc_bytes (s : BL) (L : List HP) (hs : s.length ≤ 100000) : TriE Tryd.prog 40 #[strV s] (fun v M => (∃ (t : BL) (ok : Bool), v = .tuple #[strV t, .bool ok] ∧ TxtP s t ok) ∧ M = L) L := by
  refine Tri.of (N := 50) (args := [strV s]) Tryd.func40 rfl rfl rfl ?_
  by_cases hd : s = [45]
  · subst hd
    refine go ?_
    refine WO.sv rfl ?_
    refine SV.eqlST (a := [45]) (b := [45]) rfl rfl rfl ?_
    refine go ?_
    refine ⟨rfl, [_, _], ⟨Res.tmp rfl, Res.tmp rfl, trivial⟩, L, ent, ⟨[], true, rfl, Nat.zero_le _, fun _ => rfl, fun t' e => ⟨rfl, hexT_inj e⟩⟩, rfl⟩
  refine go ?_
  refine WO.sv rfl ?_
  refine SV.eqlSF (a := s) (b := [45]) rfl rfl hd ?_
  have hnot : ∀ t, s = hexT t → t ≠ [] ∧ s = t.flatMap hxb := fun t e => by
    by_cases z : t = []
    · subst z; exact absurd e hd
    · exact ⟨z, by rw [e, hexT_cons z]⟩
  refine go ?_
  refine W.loopS 1099511627004 rfl (fun q : Nat × Option Addr × Nat × BL => [(4, .slice q.2.1 q.2.2.2.length q.2.2.1), (5, .int .i64 ((2 * q.1 : Nat) : Int))]) (fun q => OY q.2.1 q.2.2.1 q.2.2.2 :: L)
    (fun q => 2 * q.1 ≤ s.length ∧ SomeA q.2.1 q.2.2.2.length ∧ q.2.2.2.length = q.1 ∧ s.take (2 * q.1) = q.2.2.2.flatMap hxb) (fun q => s.length - q.1) (0, none, 0, []) ⟨rfl, rfl, trivial⟩ ⟨Nat.zero_le _, fun z => absurd rfl z, rfl, by simp⟩ (Ent.app (by dsimp only; unfold OY; exact Ent.ownNil ent)) ?_
  rintro ⟨k, a, c, t⟩ bg ⟨hi, ha, hk, hst⟩
  dsimp only at hi ha hk hst ⊢
  by_cases h2 : 2 * k + 1 < s.length
  · have hx : s[2 * k]? = some s[2 * k] := List.getElem?_eq_getElem (by omega)
    have hy : s[2 * k + 1]? = some s[2 * k + 1] := List.getElem?_eq_getElem h2
    have hts : s.take (2 * (k + 1)) = s.take (2 * k) ++ [s[2 * k], s[2 * k + 1]] := by
      rw [show 2 * (k + 1) = 2 * k + 1 + 1 by omega, List.take_add_one, List.take_add_one (l := s) (i := 2 * k), hx, hy, List.append_assoc]; rfl
    generalize s[2 * k] = cx at hx hts
    generalize s[2 * k + 1] = cy at hy hts
    have hgx : ∀ t' : BL, s = t'.flatMap hxb → 0 ≤ hxi cx := fun t' e => hxf_get t' (2 * k) cx (by rw [← e]; exact hx)
    have hgy : ∀ t' : BL, s = t'.flatMap hxb → 0 ≤ hxi cy := fun t' e => hxf_get t' (2 * k + 1) cy (by rw [← e]; exact hy)
    refine go ?_
    refine W.drawB #[0, 0, 3, 7, 0, 0, 32, 112, 255, 511, 1023] [] (OY a c t :: L) rfl (by kernel_rfl) (by kernel_rfl) (by kernel_rfl) ent ?_
    refine go ?_
    refine DB.q (v := u8V cx) rfl rfl hl (SV.indexS (s := s) (c := cx) rfl rfl (by omega) hx eqq) ?_
    refine go ?_
    refine DB.callE (vs := [strV hexL, u8V cx]) Tryd.func61 rfl rfl rfl rfl hl hl (st_IndexByte hexL cx _) ?_
    rintro v M ⟨rfl, rfl⟩
    rw [hexIx]
    refine ⟨[], OY a c t :: L, ent, ?_⟩
    refine go ?_
    refine DB.q (v := u8V cy) rfl rfl hl (SV.indexS (s := s) (c := cy) rfl rfl (by omega) hy eqq) ?_
    refine go ?_
    refine DB.callE (vs := [strV hexL, u8V cy]) Tryd.func61 rfl rfl rfl rfl hl hl (st_IndexByte hexL cy _) ?_
    rintro v M ⟨rfl, rfl⟩
    rw [hexIx]
    refine ⟨[], OY a c t :: L, ent, ?_⟩
    refine go ?_
    refine ⟨OY a c t :: L, ent, ?_⟩
    by_cases g1 : 0 ≤ hxi cx
    rotate_left
    · refine go ?_
      exact ⟨rfl, [_, _], ⟨Res.tmp rfl, Res.tmp rfl, trivial⟩, L, ent, ⟨[], false, rfl, TxtP.no fun t' e => g1 (hgx t' (hnot t' e).2)⟩, rfl⟩
    by_cases g2 : 0 ≤ hxi cy
    rotate_left
    · refine go ?_
      exact ⟨rfl, [_, _], ⟨Res.tmp rfl, Res.tmp rfl, trivial⟩, L, ent, ⟨[], false, rfl, TxtP.no fun t' e => g2 (hgy t' (hnot t' e).2)⟩, rfl⟩
    obtain ⟨bb, hb1, hb2⟩ := hx_byte g1 g2
    have hbl := u8_lt bb
    generalize hxi cx = ix at *
    generalize hxi cy = iy at *
    refine go ?_
    refine WO.sv rfl ?_
    refine SV.lit rfl rfl rfl parts rfl nl ?_
    intro b2
    rw [show Value.int .u8 (ix * 16 + iy) = u8V bb from congrArg (Value.int .u8) hb2.symm]
    unfold OY
    refine WO.sv rfl ?_
    refine SV.append rfl rfl rfl (Tk.there Tk.here) (RdS.src (RdS.all (sz := 1) (n := 1) rfl)) rfl rfl (by omega) rfl ?_
    intro a' c' ha'
    refine go ?_
    have htl : (t ++ [bb]).length = t.length + 1 := by rw [List.length_append]; rfl
    refine ⟨(k + 1, a', c', t ++ [bb]), ⟨by dsimp only; rw [htl]; rfl, rfl, trivial⟩, rfl, ⟨by dsimp only; omega, by dsimp only; rw [htl]; exact ha', by dsimp only; rw [htl, hk], ?_⟩, by dsimp only; omega, ?_⟩
    · dsimp only
      rw [hts, hst, List.flatMap_append, ← hb1]; simp
    · dsimp only
      rw [htl, List.map_append]
      exact Ent.app ent
  · refine go ?_
    refine WO.sv rfl ?_
    refine SV.toStrR rfl (bs := t) (by unfold OY; exact RdS.ownS Tk.here ha (by simp)) ?_
    refine go ?_
    by_cases he : s = []
    · refine WO.sv rfl ?_
      refine SV.neqSF (a := s) (b := []) rfl rfl he ?_
      refine go ?_
      refine ⟨rfl, [_, _], ⟨Res.tmp rfl, Res.tmp rfl, trivial⟩, L, ent, ⟨t, false, rfl, by rw [hk]; omega, fun z => (by cases z), fun t' e => ?_⟩, rfl⟩
      obtain ⟨z1, z2⟩ := hnot t' e
      rw [he] at z2
      cases t' with
      | nil => exact absurd rfl z1
      | cons x y => simp [hxb] at z2
    · refine WO.sv rfl ?_
      refine SV.neqST (a := s) (b := []) rfl rfl he ?_
      by_cases hev : s.length = 2 * k
      · rw [← hev, List.take_length] at hst
        have ht0 : t ≠ [] := fun z => he (by rw [hst, z]; rfl)
        refine go ?_
        refine ⟨rfl, [_, _], ⟨Res.tmp rfl, Res.tmp rfl, trivial⟩, L, ent, ⟨t, true, rfl, by rw [hk]; omega, fun _ => by rw [hexT_cons ht0]; exact hst, fun t' e => ⟨rfl, ?_⟩⟩, rfl⟩
        exact hxf_inj (by rw [← hst]; exact (hnot t' e).2)
      · have hodd : (s.length : Int) % 2 ≠ 0 := by omega
        refine go ?_
        refine ⟨rfl, [_, _], ⟨Res.tmp rfl, Res.tmp rfl, trivial⟩, L, ent, ⟨t, false, rfl, by rw [hk]; omega, fun z => (by cases z), fun t' e => ?_⟩, rfl⟩
        have := hxf_len t'
        rw [← (hnot t' e).2] at this
        omega
end Go.SL

/- Layer 32 (script): an act in memory; verbs, and which numbers and texts an act's line has, walked. -/
namespace Go.SL
open Go.Proofs
set_option linter.unusedVariables false
set_option linter.unusedSimpArgs false
set_option linter.unusedSectionVars false
set_option maxRecDepth 10000
set_option maxHeartbeats 4000000
attribute [local irreducible] W WO SV OW SW Tri Ent Tk Has Src SrcK DA DB DP RdS Own OwnT MapH

/-- An act's cells. -/
def acL (k : Int) (ns : List Int) (ts : List BL) (sv : Value) : List Value :=
  [.int .i64 k, .int .i64 (ns.getD 0 0), .int .i64 (ns.getD 1 0), .int .i64 (ns.getD 2 0), .int .i64 (ns.getD 3 0), .int .i64 (ns.getD 4 0), strV (ts.getD 0 []), strV (ts.getD 1 []), sv]
def ptV (b : Nat) (o : Nat) (l : List Nat) : List Value := l.map fun j => Value.pointer (some ⟨b, o + j, none⟩)
/-- Where the numbers are. -/
def OP (a : Option Addr) (c b : Nat) (l : List Nat) : HP := Own 67 1 (.slice a l.length c) l.length (ptV b 1 l)
def OQ (a : Option Addr) (c b : Nat) (l : List Nat) : HP := Own 71 1 (.slice a l.length c) l.length (ptV b 6 l)
theorem OP.nil (b : Nat) {L : List HP} : Ent L (OP none 0 b [] :: L) := by unfold OP; exact Ent.ownNil ent
theorem OP.of (b x : Nat) (l : List Nat) {L R : List HP} (e : Ent L (pts x (.cells (ptV b 1 l).toArray 67) :: R)) : Ent L (OP (some ⟨x, 0, none⟩) l.length b l :: R) := by unfold OP; exact Own.ofPts (by simp [ptV]) e
theorem OQ.of (b x : Nat) (l : List Nat) {L R : List HP} (e : Ent L (pts x (.cells (ptV b 6 l).toArray 71) :: R)) : Ent L (OQ (some ⟨x, 0, none⟩) l.length b l :: R) := by unfold OQ; exact Own.ofPts (by simp [ptV]) e
theorem sc_verbs (L : List HP) : TriE Tryd.prog 25 #[] (fun v M => ∃ b, v = .slice (some ⟨b, 0, none⟩) 13 13 ∧ M = OZ (some ⟨b, 0, none⟩) 13 verbL :: L) L := by
  refine Tri.of (N := 2) (args := []) Tryd.func25 rfl rfl rfl ?_
  refine go ?_
  refine WO.sv rfl ?_
  refine SV.lit rfl rfl rfl (Parts.cons (v := .string _) rfl cel (Parts.cons (v := .string _) rfl cel (Parts.cons (v := .string _) rfl cel (Parts.cons (v := .string _) rfl cel (Parts.cons (v := .string _) rfl cel (Parts.cons (v := .string _) rfl cel (Parts.cons (v := .string _) rfl cel (Parts.cons (v := .string _) rfl cel (Parts.cons (v := .string _) rfl cel (Parts.cons (v := .string _) rfl cel (Parts.cons (v := .string _) rfl cel (Parts.cons (v := .string _) rfl cel (Parts.cons (v := .string _) rfl cel Parts.nil))))))))))))) rfl nl ?_
  intro b
  refine go ?_
  refine ⟨rfl, [_], ⟨Res.tmp rfl, trivial⟩, OZ (some ⟨b, 0, none⟩) 13 verbL :: L, ?_, b, rfl, rfl⟩
  unfold OZ
  exact Own.ofPts rfl ent
theorem sc_parts (b : Nat) (k : Int) (ns : List Int) (ts : List BL) (sv : Value) (L : List HP) (r : Rd L b (.cells (acL k ns ts sv).toArray 24)) :
    TriE Tryd.prog 26 #[.pointer (some ⟨b, 0, none⟩)] (fun v M => ∃ a c, v = .slice a (pidx k).length c ∧ SomeA a (pidx k).length ∧ M = OP a c b (pidx k) :: L) L := by
  unfold acL at r
  haveI := r
  refine Tri.of (N := 78) (args := [.pointer (some ⟨b, 0, none⟩)]) Tryd.func26 rfl rfl rfl ?_
  by_cases h0 : k = 0
  · subst h0
    refine go ?_
    refine W.drawB #[0, 1, 3, 0, 8, 24, 63, 127] [] L rfl (by kernel_rfl) (by kernel_rfl) (by kernel_rfl) ent ?_
    refine go ?_
    refine DB.lit rfl rfl rfl parts rfl nl rfl rfl ?_
    intro x
    refine go ?_
    refine ⟨OP (some ⟨x, 0, none⟩) 2 b [0, 3] :: L, OP.of b x [0, 3] ent, ?_⟩
    refine go ?_
    exact ⟨rfl, [_], ⟨Res.tmp rfl, trivial⟩, _, ent, some ⟨x, 0, none⟩, 2, rfl, fun _ => ⟨x, rfl⟩, rfl⟩
  by_cases h11 : k = 11
  · subst h11
    refine go ?_
    refine W.drawB #[0, 1, 3, 0, 8, 24, 63, 127] [] L rfl (by kernel_rfl) (by kernel_rfl) (by kernel_rfl) ent ?_
    refine go ?_
    refine DB.lit rfl rfl rfl parts rfl nl rfl rfl ?_
    intro x
    refine go ?_
    refine ⟨OP (some ⟨x, 0, none⟩) 2 b [0, 3] :: L, OP.of b x [0, 3] ent, ?_⟩
    refine go ?_
    exact ⟨rfl, [_], ⟨Res.tmp rfl, trivial⟩, _, ent, some ⟨x, 0, none⟩, 2, rfl, fun _ => ⟨x, rfl⟩, rfl⟩
  by_cases h1 : k = 1
  · subst h1
    refine go ?_
    refine W.drawB #[0, 1, 3, 0, 8, 24, 0, 64, 192, 0, 512, 1536, 4095, 8191] [] L rfl (by kernel_rfl) (by kernel_rfl) (by kernel_rfl) ent ?_
    refine go ?_
    refine DB.lit rfl rfl rfl parts rfl nl rfl rfl ?_
    intro x
    refine go ?_
    refine ⟨OP (some ⟨x, 0, none⟩) 4 b [0, 1, 3, 4] :: L, OP.of b x [0, 1, 3, 4] ent, ?_⟩
    refine go ?_
    exact ⟨rfl, [_], ⟨Res.tmp rfl, trivial⟩, _, ent, some ⟨x, 0, none⟩, 4, rfl, fun _ => ⟨x, rfl⟩, rfl⟩
  by_cases h2 : k = 2
  · subst h2
    refine go ?_
    refine W.drawB #[0, 1, 3, 0, 8, 24, 63, 127] [] L rfl (by kernel_rfl) (by kernel_rfl) (by kernel_rfl) ent ?_
    refine go ?_
    refine DB.lit rfl rfl rfl parts rfl nl rfl rfl ?_
    intro x
    refine go ?_
    refine ⟨OP (some ⟨x, 0, none⟩) 2 b [0, 2] :: L, OP.of b x [0, 2] ent, ?_⟩
    refine go ?_
    exact ⟨rfl, [_], ⟨Res.tmp rfl, trivial⟩, _, ent, some ⟨x, 0, none⟩, 2, rfl, fun _ => ⟨x, rfl⟩, rfl⟩
  by_cases h4 : k = 4
  · subst h4
    refine go ?_
    refine W.drawB #[0, 1, 3, 0, 8, 24, 63, 127] [] L rfl (by kernel_rfl) (by kernel_rfl) (by kernel_rfl) ent ?_
    refine go ?_
    refine DB.lit rfl rfl rfl parts rfl nl rfl rfl ?_
    intro x
    refine go ?_
    refine ⟨OP (some ⟨x, 0, none⟩) 2 b [0, 2] :: L, OP.of b x [0, 2] ent, ?_⟩
    refine go ?_
    exact ⟨rfl, [_], ⟨Res.tmp rfl, trivial⟩, _, ent, some ⟨x, 0, none⟩, 2, rfl, fun _ => ⟨x, rfl⟩, rfl⟩
  by_cases h9 : k = 9
  · subst h9
    refine go ?_
    refine W.drawB #[0, 1, 3, 0, 8, 24, 63, 127] [] L rfl (by kernel_rfl) (by kernel_rfl) (by kernel_rfl) ent ?_
    refine go ?_
    refine DB.lit rfl rfl rfl parts rfl nl rfl rfl ?_
    intro x
    refine go ?_
    refine ⟨OP (some ⟨x, 0, none⟩) 2 b [0, 2] :: L, OP.of b x [0, 2] ent, ?_⟩
    refine go ?_
    exact ⟨rfl, [_], ⟨Res.tmp rfl, trivial⟩, _, ent, some ⟨x, 0, none⟩, 2, rfl, fun _ => ⟨x, rfl⟩, rfl⟩
  by_cases h3 : k = 3
  · subst h3
    refine go ?_
    refine WO.sv rfl ?_
    refine SV.lit rfl rfl rfl parts rfl nl ?_
    intro x
    refine go ?_
    exact ⟨rfl, [_], ⟨Res.tmp rfl, trivial⟩, OP (some ⟨x, 0, none⟩) 1 b [0] :: L, OP.of b x [0] ent, some ⟨x, 0, none⟩, 1, rfl, fun _ => ⟨x, rfl⟩, rfl⟩
  by_cases h5 : k = 5
  · subst h5
    refine go ?_
    refine WO.sv rfl ?_
    refine SV.lit rfl rfl rfl parts rfl nl ?_
    intro x
    refine go ?_
    exact ⟨rfl, [_], ⟨Res.tmp rfl, trivial⟩, OP (some ⟨x, 0, none⟩) 1 b [0] :: L, OP.of b x [0] ent, some ⟨x, 0, none⟩, 1, rfl, fun _ => ⟨x, rfl⟩, rfl⟩
  by_cases h12 : k = 12
  · subst h12
    refine go ?_
    refine WO.sv rfl ?_
    refine SV.lit rfl rfl rfl parts rfl nl ?_
    intro x
    refine go ?_
    exact ⟨rfl, [_], ⟨Res.tmp rfl, trivial⟩, OP (some ⟨x, 0, none⟩) 1 b [0] :: L, OP.of b x [0] ent, some ⟨x, 0, none⟩, 1, rfl, fun _ => ⟨x, rfl⟩, rfl⟩
  by_cases h6 : k = 6
  · subst h6
    refine go ?_
    refine W.drawB #[0, 1, 3, 0, 8, 24, 0, 64, 192, 511, 1023] [] L rfl (by kernel_rfl) (by kernel_rfl) (by kernel_rfl) ent ?_
    refine go ?_
    refine DB.lit rfl rfl rfl parts rfl nl rfl rfl ?_
    intro x
    refine go ?_
    refine ⟨OP (some ⟨x, 0, none⟩) 3 b [2, 1, 3] :: L, OP.of b x [2, 1, 3] ent, ?_⟩
    refine go ?_
    exact ⟨rfl, [_], ⟨Res.tmp rfl, trivial⟩, _, ent, some ⟨x, 0, none⟩, 3, rfl, fun _ => ⟨x, rfl⟩, rfl⟩
  by_cases h8 : k = 8
  · subst h8
    refine go ?_
    refine W.drawB #[0, 1, 3, 0, 8, 24, 63, 127] [] L rfl (by kernel_rfl) (by kernel_rfl) (by kernel_rfl) ent ?_
    refine go ?_
    refine DB.lit rfl rfl rfl parts rfl nl rfl rfl ?_
    intro x
    refine go ?_
    refine ⟨OP (some ⟨x, 0, none⟩) 2 b [2, 4] :: L, OP.of b x [2, 4] ent, ?_⟩
    refine go ?_
    exact ⟨rfl, [_], ⟨Res.tmp rfl, trivial⟩, _, ent, some ⟨x, 0, none⟩, 2, rfl, fun _ => ⟨x, rfl⟩, rfl⟩
  by_cases h10 : k = 10
  · subst h10
    refine go ?_
    refine WO.sv rfl ?_
    refine SV.lit rfl rfl rfl parts rfl nl ?_
    intro x
    refine go ?_
    exact ⟨rfl, [_], ⟨Res.tmp rfl, trivial⟩, OP (some ⟨x, 0, none⟩) 1 b [2] :: L, OP.of b x [2] ent, some ⟨x, 0, none⟩, 1, rfl, fun _ => ⟨x, rfl⟩, rfl⟩
  have hp : pidx k = [] := by
    by_cases h7 : k = 7
    · subst h7; rfl
    · exact pidx_big (by omega)
  refine go ?_
  rw [hp]
  exact ⟨rfl, [_], ⟨Res.tmp rfl, trivial⟩, OP none 0 b [] :: L, OP.nil b, none, 0, rfl, fun z => absurd rfl z, rfl⟩
theorem OQ.nil (b : Nat) {L : List HP} : Ent L (OQ none 0 b [] :: L) := by unfold OQ; exact Ent.ownNil ent
theorem sc_texts (b : Nat) (k : Int) (ns : List Int) (ts : List BL) (sv : Value) (L : List HP) (r : Rd L b (.cells (acL k ns ts sv).toArray 24)) :
    TriE Tryd.prog 28 #[.pointer (some ⟨b, 0, none⟩)] (fun v M => ∃ a c, v = .slice a (ntx k) c ∧ SomeA a (ntx k) ∧ M = OQ a c b (List.range (ntx k)) :: L) L := by
  unfold acL at r
  haveI := r
  refine Tri.of (N := 22) (args := [.pointer (some ⟨b, 0, none⟩)]) Tryd.func28 rfl rfl rfl ?_
  by_cases h0 : k = 0
  · subst h0
    refine go ?_
    refine W.drawB #[0, 1, 3, 0, 8, 24, 63, 127] [] L rfl (by kernel_rfl) (by kernel_rfl) (by kernel_rfl) ent ?_
    refine go ?_
    refine DB.lit rfl rfl rfl parts rfl nl rfl rfl ?_
    intro x
    refine go ?_
    refine ⟨OQ (some ⟨x, 0, none⟩) 2 b [0, 1] :: L, OQ.of b x [0, 1] ent, ?_⟩
    refine go ?_
    exact ⟨rfl, [_], ⟨Res.tmp rfl, trivial⟩, _, ent, some ⟨x, 0, none⟩, 2, rfl, fun _ => ⟨x, rfl⟩, rfl⟩
  by_cases h7 : k = 7
  · subst h7
    refine go ?_
    refine WO.sv rfl ?_
    refine SV.lit rfl rfl rfl parts rfl nl ?_
    intro x
    refine go ?_
    exact ⟨rfl, [_], ⟨Res.tmp rfl, trivial⟩, OQ (some ⟨x, 0, none⟩) 1 b [0] :: L, OQ.of b x [0] ent, some ⟨x, 0, none⟩, 1, rfl, fun _ => ⟨x, rfl⟩, rfl⟩
  have hp : ntx k = 0 := by unfold ntx; rw [if_neg h0, if_neg h7]
  refine go ?_
  rw [hp]
  exact ⟨rfl, [_], ⟨Res.tmp rfl, trivial⟩, OQ none 0 b [] :: L, OQ.nil b, none, 0, rfl, fun z => absurd rfl z, rfl⟩
end Go.SL

/- Layer 32 (script): what does not count is left out; which acts are right, walked. -/
namespace Go.SL
open Go.Proofs
set_option linter.unusedVariables false
set_option linter.unusedSimpArgs false
set_option linter.unusedSectionVars false
set_option maxRecDepth 10000
set_option maxHeartbeats 4000000
attribute [local irreducible] W WO SV OW SW Tri Ent Tk Has Src SrcK DA DB DP RdS Own OwnT MapH

def zv (w : List Int) : List Value := w.map fun k : Int => Value.int .i64 k
def OK2 (a : Option Addr) (c : Nat) (w : List Int) : HP := Own 3 1 (.slice a w.length c) w.length (zv w)
theorem zv_get (w : List Int) (k : Nat) (h : k < w.length) : (zv w)[k]? = some (.int .i64 (w.getD k 0)) := by
  simp [zv, List.getD_eq_getElem?_getD, h]
theorem zv_len (w : List Int) : (zv w).length = w.length := by simp [zv]
theorem acL_get (k : Int) (ns : List Int) (ts : List BL) (sv : Value) : ∀ {j : Nat}, j < 5 → (acL k ns ts sv)[1 + j]? = some (.int .i64 (ns.getD j 0))
  | 0, _ => rfl
  | 1, _ => rfl
  | 2, _ => rfl
  | 3, _ => rfl
  | 4, _ => rfl
theorem acL_set (k : Int) (ts : List BL) (sv : Value) (v : Int) : ∀ {ns : List Int} {j : Nat}, ns.length = 5 → j < 5 → (acL k ns ts sv).set (1 + j) (.int .i64 v) = acL k (ns.set j v) ts sv
  | [_, _, _, _, _], 0, _, _ => rfl
  | [_, _, _, _, _], 1, _, _ => rfl
  | [_, _, _, _, _], 2, _, _ => rfl
  | [_, _, _, _, _], 3, _, _ => rfl
  | [_, _, _, _, _], 4, _, _ => rfl
theorem acL_getT (k : Int) (ns : List Int) (ts : List BL) (sv : Value) : ∀ {j : Nat}, j < 2 → (acL k ns ts sv)[6 + j]? = some (strV (ts.getD j []))
  | 0, _ => rfl
  | 1, _ => rfl
theorem acL_setT (k : Int) (ns : List Int) (sv : Value) (v : BL) : ∀ {ts : List BL} {j : Nat}, ts.length = 2 → j < 2 → (acL k ns ts sv).set (6 + j) (strV v) = acL k ns (ts.set j v) sv
  | [_, _], 0, _, _ => rfl
  | [_, _], 1, _, _ => rfl
theorem acL_len (k : Int) (ns : List Int) (ts : List BL) (sv : Value) : (acL k ns ts sv).length = 9 := rfl
theorem ptV_get (b o : Nat) (l : List Nat) (i : Nat) (h : i < l.length) : (ptV b o l)[i]? = some (.pointer (some ⟨b, o + l[i], none⟩)) := by
  simp [ptV, h]
theorem getD_setZ {l : List Int} {k j : Nat} {u : Int} (hk : k < l.length) : (l.set k u).getD j 0 = if j = k then u else l.getD j 0 := by
  simp only [List.getD_eq_getElem?_getD, List.getElem?_set]
  by_cases h : k = j
  · subst h; simp [hk]
  · have h' : ¬ j = k := fun e => h e.symm
    simp [h, h']
theorem getD_setB {l : List BL} {k j : Nat} {u : BL} (hk : k < l.length) : (l.set k u).getD j [] = if j = k then u else l.getD j [] := by
  simp only [List.getD_eq_getElem?_getD, List.getElem?_set]
  by_cases h : k = j
  · subst h; simp [hk]
  · have h' : ¬ j = k := fun e => h e.symm
    simp [h, h']
theorem sl_CloneInt (a : Option Addr) (c : Nat) (ks : List Int) (L : List HP) (hn : ks.length ≤ 1000000) (r : RdS 1 a ks.length (zv ks) L) :
    TriE Tryd.prog 31 #[.slice a ks.length c] (fun v M => ∃ a' c', v = .slice a' ks.length c' ∧ SomeA a' ks.length ∧ M = OK2 a' c' ks :: L) L := by
  refine Tri.of (N := 8) (args := [.slice a ks.length c]) Tryd.func31 rfl rfl rfl ?_
  cases a with
  | none =>
    have h0 : ks.length = 0 := Classical.byContradiction fun h0 => by obtain ⟨b, off, e⟩ := r.at h0; cases e
    have hx : ks = [] := List.length_eq_zero_iff.1 h0
    subst hx
    refine go ?_
    exact ⟨rfl, [_], ⟨Res.tmp rfl, trivial⟩, OK2 none 0 [] :: L, by unfold OK2; exact Ent.ownNil (Ent.refl _), none, 0, rfl, fun h => absurd rfl h, rfl⟩
  | some a =>
    refine go ?_
    refine WO.sv rfl ?_
    refine SV.lit0 ?_
    intro b1
    refine go ?_
    refine WO.ent (ent_own (sz := 1) (n := 0) rfl) ?_
    refine WO.sv rfl ?_
    refine SV.append rfl rfl rfl tk (RdS.src r) (by rw [r.len]) (by simp [zv, isCell]) (by omega) rfl ?_
    intro a' c' ha'
    rw [Nat.zero_add, List.nil_append] at *
    refine go ?_
    exact ⟨rfl, [_], ⟨Res.tmp rfl, trivial⟩, OK2 a' c' ks :: L, by unfold OK2; exact ent, a', c', rfl, ha', rfl⟩
/-- The first numbers are over, the others are not yet. -/
def FilP (l : List Nat) (ns u : List Int) (i : Nat) : Prop := u.length = 5 ∧ ∀ j, u.getD j 0 = if j ∈ l.take i then ns.getD j 0 else 0
theorem FilP.begin (l : List Nat) (ns : List Int) : FilP l ns [0, 0, 0, 0, 0] 0 := ⟨rfl, fun j => by
  rw [if_neg (by simp)]
  match j with
  | 0 => rfl
  | 1 => rfl
  | 2 => rfl
  | 3 => rfl
  | 4 => rfl
  | _ + 5 => rfl⟩
theorem FilP.step {l : List Nat} {ns u : List Int} {i : Nat} (h : FilP l ns u i) (hi : i < l.length) (hj : l[i] < 5) : FilP l ns (u.set l[i] (ns.getD l[i] 0)) (i + 1) := by
  obtain ⟨h1, h2⟩ := h
  refine ⟨by rw [List.length_set]; exact h1, fun j => ?_⟩
  rw [getD_setZ (by omega), List.take_add_one, List.getElem?_eq_getElem hi, Option.toList_some]
  by_cases e : j = l[i]
  · rw [if_pos e, if_pos (List.mem_append_right _ (by rw [e]; exact List.mem_singleton.2 rfl)), e]
  · rw [if_neg e, h2 j]
    by_cases q : j ∈ l.take i
    · rw [if_pos q, if_pos (List.mem_append_left _ q)]
    · rw [if_neg q, if_neg (fun z => by
        rcases List.mem_append.1 z with z | z
        · exact q z
        · exact e (by simpa using z))]
theorem FilP.done {k : Int} {ns u : List Int} {i : Nat} (h : FilP (pidx k) ns u i) (hi : (pidx k).length ≤ i) : u = (List.range 5).map fun j => if j ∈ pidx k then ns.getD j 0 else 0 := by
  obtain ⟨h1, h2⟩ := h
  rw [List.take_of_length_le hi] at h2
  apply List.ext_getElem
  · rw [h1]; simp
  · intro j q1 q2
    have := h2 j
    rw [List.getD_eq_getElem?_getD, List.getElem?_eq_getElem q1, Option.getD_some] at this
    rw [this, List.getElem_map, List.getElem_range]
def FilT (n : Nat) (ts u : List BL) (i : Nat) : Prop := u.length = 2 ∧ ∀ j, u.getD j [] = if j < i then ts.getD j [] else []
theorem FilT.begin (n : Nat) (ts : List BL) : FilT n ts [[], []] 0 := ⟨rfl, fun j => by
  rw [if_neg (by omega)]
  match j with
  | 0 => rfl
  | 1 => rfl
  | _ + 2 => rfl⟩
theorem FilT.step {n : Nat} {ts u : List BL} {i : Nat} (h : FilT n ts u i) (hi : i < 2) : FilT n ts (u.set i (ts.getD i [])) (i + 1) := by
  obtain ⟨h1, h2⟩ := h
  refine ⟨by rw [List.length_set]; exact h1, fun j => ?_⟩
  rw [getD_setB (by omega)]
  by_cases e : j = i
  · rw [if_pos e, if_pos (by omega), e]
  · rw [if_neg e, h2 j]
    by_cases q : j < i
    · rw [if_pos q, if_pos (by omega)]
    · rw [if_neg q, if_neg (by omega)]
theorem FilT.done {n : Nat} {ts u : List BL} (h : FilT n ts u n) : u = (List.range 2).map fun j => if j < n then ts.getD j [] else [] := by
  obtain ⟨h1, h2⟩ := h
  apply List.ext_getElem
  · rw [h1]; simp
  · intro j q1 q2
    have := h2 j
    rw [List.getD_eq_getElem?_getD, List.getElem?_eq_getElem q1, Option.getD_some] at this
    rw [this, List.getElem_map, List.getElem_range]
/-- An act, as a value. -/
def acV (A : Ac) (a : Option Addr) (c : Nat) : Value := .agg (acL A.k A.ns A.ts (.slice a A.ks.length c)).toArray
theorem sc_Clean (A : Ac) (ka : Option Addr) (kc : Nat) (L : List HP) (hk : A.ks.length ≤ 1000000) (r : RdS 1 ka A.ks.length (zv A.ks) L) :
    TriE Tryd.prog 9 #[acV A ka kc] (fun v M => ∃ a c, v = acV A.clean a c ∧ SomeA a A.clean.ks.length ∧ M = OK2 a c A.clean.ks :: L) L := by
  obtain ⟨k, ns, ts, ks⟩ := A
  dsimp only at hk r
  unfold acV
  dsimp only
  have hT : ∀ b cs (X : List HP), Rd (pts b (.cells cs 24) :: X) b (.cells cs 24) := fun b cs X => Rd.here
  refine Tri.of (N := 55) (args := [.agg (acL k ns ts (.slice ka ks.length kc)).toArray]) Tryd.func9 rfl rfl rfl ?_
  unfold acL
  refine go ?_
  intro b1
  refine go ?_
  intro b2
  refine go ?_
  intro b3
  refine go ?_
  refine WO.ent (show Ent _ (pts b3 (.cells (acL k [0, 0, 0, 0, 0] [[], []] (.slice none 0 0)).toArray 24) :: pts b1 (.cells (acL k ns ts (.slice ka ks.length kc)).toArray 24) :: pts b2 (.cells (acL 0 [] [] (.slice none 0 0)).toArray 24) :: L) from ent) ?_
  refine WO.callE (vs := [.pointer (some ⟨b1, 0, none⟩)]) Tryd.func26 rfl rfl rfl rfl (sc_parts b1 k ns ts _ _ inferInstance) ?_
  rintro v M ⟨fa, fc, rfl, sfa, rfl⟩
  refine go ?_
  refine WO.callE (vs := [.pointer (some ⟨b3, 0, none⟩)]) Tryd.func26 rfl rfl rfl rfl (sc_parts b3 k [0, 0, 0, 0, 0] [[], []] _ _ inferInstance) ?_
  rintro v M ⟨ga, gc, rfl, sga, rfl⟩
  refine go ?_
  have hp := pidx_ok k
  have hntx := ntx_le k
  refine W.loopS 1073676384 rfl (fun q : Nat × List Int => [(16, .int .i64 (q.1 : Int))]) (fun q => OP ga gc b3 (pidx k) :: OP fa fc b1 (pidx k) :: pts b3 (.cells (acL k q.2 [[], []] (.slice none 0 0)).toArray 24) :: pts b1 (.cells (acL k ns ts (.slice ka ks.length kc)).toArray 24) :: pts b2 (.cells (acL 0 [] [] (.slice none 0 0)).toArray 24) :: L)
    (fun q => q.1 ≤ (pidx k).length ∧ FilP (pidx k) ns q.2 q.1) (fun q => (pidx k).length - q.1) (0, [0, 0, 0, 0, 0]) ⟨rfl, trivial⟩ ⟨Nat.zero_le _, FilP.begin _ _⟩ (Ent.app ent) ?_
  rintro ⟨i, u⟩ bg ⟨hi, hf⟩
  dsimp only at hi hf ⊢
  by_cases h1 : i < (pidx k).length
  · have hj := hp.2.1 _ (List.getElem_mem h1)
    have hst := hf.step h1 hj
    have p1 := ptV_get b3 1 (pidx k) i h1
    have p2 := ptV_get b1 1 (pidx k) i h1
    have hul := hf.1
    have rdg : ∀ X, RdS 1 ga (pidx k).length (ptV b3 1 (pidx k)) (OP ga gc b3 (pidx k) :: X) := fun X => by unfold OP; exact RdS.ownS Tk.here sga (by simp [ptV])
    have rdf : ∀ Y X, RdS 1 fa (pidx k).length (ptV b1 1 (pidx k)) (Y :: OP fa fc b1 (pidx k) :: X) := fun Y X => by unfold OP; exact RdS.ownS (Tk.there Tk.here) sfa (by simp [ptV])
    obtain ⟨gb, rfl⟩ := sga (by omega)
    obtain ⟨fb, rfl⟩ := sfa (by omega)
    generalize (pidx k)[i] = j at *
    have hget := acL_get k ns ts (.slice ka ks.length kc) hj
    refine go ?_
    refine WO.sv rfl ?_
    refine SV.loadR (v := .pointer (some ⟨b3, 1 + j, none⟩)) i rfl (rdg _) (by omega) p1 ?_
    refine go ?_
    refine WO.sv rfl ?_
    refine SV.loadR (v := .pointer (some ⟨b1, 1 + j, none⟩)) i rfl (rdf _ _) (by omega) p2 ?_
    refine go ?_
    refine WO.sv rfl ?_
    refine SV.loadR (v := .int .i64 (ns.getD j 0)) (1 + j) rfl (RdS.all (sz := 1) (n := 9) rfl).cons.cons.cons (by omega) hget ?_
    refine go ?_
    refine WO.sv rfl ?_
    refine SV.storeS (v := .int .i64 (ns.getD j 0)) rfl rfl rfl (.inl (Nat.le_refl _)) (by rw [acL_len]; omega) ?_
    rw [acL_set k _ _ _ hul hj]
    refine go ?_
    exact ⟨(i + 1, u.set j (ns.getD j 0)), ⟨rfl, trivial⟩, rfl, ⟨h1, hst⟩, by dsimp only; omega, Ent.app ent⟩
  obtain rfl : i = (pidx k).length := by omega
  have hdone := hf.done (Nat.le_refl _)
  have hul := hf.1
  clear hf
  refine go ?_
  refine WO.callE (vs := [.pointer (some ⟨b1, 0, none⟩)]) Tryd.func28 rfl rfl rfl rfl (sc_texts b1 k ns ts (.slice ka ks.length kc) _ inferInstance) ?_
  rintro v M ⟨ta, tc, rfl, sta, rfl⟩
  refine go ?_
  refine WO.callE (vs := [.pointer (some ⟨b3, 0, none⟩)]) Tryd.func28 rfl rfl rfl rfl (sc_texts b3 k u [[], []] (.slice none 0 0) _ inferInstance) ?_
  rintro v M ⟨wa, wc, rfl, swa, rfl⟩
  refine go ?_
  refine W.loopS 140728898421504 rfl (fun q : Nat × List BL => [(33, .int .i64 (q.1 : Int))]) (fun q => OQ wa wc b3 (List.range (ntx k)) :: OQ ta tc b1 (List.range (ntx k)) :: pts b3 (.cells (acL k u q.2 (.slice none 0 0)).toArray 24) :: pts b1 (.cells (acL k ns ts (.slice ka ks.length kc)).toArray 24) :: pts b2 (.cells (acL 0 [] [] (.slice none 0 0)).toArray 24) :: L)
    (fun q => q.1 ≤ ntx k ∧ FilT (ntx k) ts q.2 q.1) (fun q => ntx k - q.1) (0, [[], []]) ⟨rfl, trivial⟩ ⟨Nat.zero_le _, FilT.begin _ _⟩ (Ent.app ent) ?_
  rintro ⟨i, x⟩ bg2 ⟨hi, hf⟩
  dsimp only at hi hf ⊢
  have hxl := hf.1
  by_cases h1 : i < ntx k
  · have hst := hf.step (show i < 2 by omega)
    have p1 := ptV_get b3 6 (List.range (ntx k)) i (by rw [List.length_range]; exact h1)
    have p2 := ptV_get b1 6 (List.range (ntx k)) i (by rw [List.length_range]; exact h1)
    rw [List.getElem_range] at p1 p2
    have rdg : ∀ X, RdS 1 wa (ntx k) (ptV b3 6 (List.range (ntx k))) (OQ wa wc b3 (List.range (ntx k)) :: X) := fun X => by unfold OQ; rw [List.length_range]; exact RdS.ownS Tk.here swa (by simp [ptV])
    have rdf : ∀ Y X, RdS 1 ta (ntx k) (ptV b1 6 (List.range (ntx k))) (Y :: OQ ta tc b1 (List.range (ntx k)) :: X) := fun Y X => by unfold OQ; rw [List.length_range]; exact RdS.ownS (Tk.there Tk.here) sta (by simp [ptV])
    obtain ⟨gb, rfl⟩ := swa (by omega)
    obtain ⟨fb, rfl⟩ := sta (by omega)
    have hget := acL_getT k ns ts (.slice ka ks.length kc) (show i < 2 by omega)
    refine go ?_
    refine WO.sv rfl ?_
    refine SV.loadR (v := .pointer (some ⟨b3, 6 + i, none⟩)) i rfl (rdg _) (by omega) p1 ?_
    refine go ?_
    refine WO.sv rfl ?_
    refine SV.loadR (v := .pointer (some ⟨b1, 6 + i, none⟩)) i rfl (rdf _ _) (by omega) p2 ?_
    refine go ?_
    refine WO.sv rfl ?_
    refine SV.loadR (v := strV (ts.getD i [])) (6 + i) rfl (RdS.all (sz := 1) (n := 9) rfl).cons.cons.cons (by omega) hget ?_
    refine go ?_
    refine WO.sv rfl ?_
    refine SV.storeS (v := strV (ts.getD i [])) rfl rfl rfl (.inl (Nat.le_refl _)) (by rw [acL_len]; omega) ?_
    rw [acL_setT k _ _ _ hxl (show i < 2 by omega)]
    refine go ?_
    exact ⟨(i + 1, x.set i (ts.getD i [])), ⟨rfl, trivial⟩, rfl, ⟨h1, hst⟩, by dsimp only; omega, Ent.app ent⟩
  obtain rfl : i = ntx k := by omega
  have hdone2 := hf.done
  clear hf
  have hcl : Ac.clean ⟨k, ns, ts, ks⟩ = ⟨k, u, x, if k = 12 then ks else []⟩ := by unfold Ac.clean; rw [← hdone, ← hdone2]
  rw [hcl]
  dsimp only
  by_cases h12 : k = 12
  · rw [if_pos h12]
    refine go ?_
    refine WO.callE (vs := [.slice ka ks.length kc]) Tryd.func31 rfl rfl rfl rfl (sl_CloneInt ka kc ks _ hk r.cons.cons.cons.cons.cons) ?_
    rintro v M ⟨ya, yc, rfl, sya, rfl⟩
    refine go ?_
    exact ⟨rfl, [_], ⟨Res.cell rfl le0 nl, trivial⟩, OK2 ya yc ks :: L, ent, ya, yc, rfl, sya, rfl⟩
  · rw [if_neg h12]
    refine go ?_
    exact ⟨rfl, [_], ⟨Res.cell rfl le0 nl, trivial⟩, OK2 none 0 [] :: L, by unfold OK2; exact Ent.ownNil ent, none, 0, rfl, fun z => absurd rfl z, rfl⟩
end Go.SL

/- Layer 32 (script): which acts are right, walked. -/
namespace Go.SL
open Go.Proofs
set_option linter.unusedVariables false
set_option linter.unusedSimpArgs false
set_option linter.unusedSectionVars false
set_option maxRecDepth 10000
set_option maxHeartbeats 4000000
attribute [local irreducible] W WO SV OW SW Tri Ent Tk Has Src SrcK DA DB DP RdS Own OwnT MapH

/-- Without what does not count. -/
def Ac.bare (A : Ac) : Prop := A.ns.length = 5 ∧ A.ts.length = 2 ∧ (∀ j, ntx A.k ≤ j → A.ts.getD j [] = []) ∧ (A.k ≠ 12 → A.ks = [])
theorem Ac.clean_bare (A : Ac) : A.clean.bare := by
  refine ⟨by simp [Ac.clean], by simp [Ac.clean], fun j hj => ?_, fun h => ?_⟩
  · rw [Ac.clean_k] at hj
    by_cases h : j < 2
    · unfold Ac.clean
      rw [Ac.rg_get _ _ _ _ h, if_neg (by omega)]
    · rw [List.getD_eq_getElem?_getD, List.getElem?_eq_none (by simp [Ac.clean]; omega)]; rfl
  · unfold Ac.clean at h ⊢; dsimp only at h ⊢; rw [if_neg h]
theorem sc_Right1 (n : Int) (L : List HP) : TriE Tryd.prog 34 #[.int .i64 n] (fun v M => v = .bool (!decide (okN n)) ∧ M = L) L := by
  refine Tri.of (N := 6) (args := [.int .i64 n]) Tryd.func34 rfl rfl rfl ?_
  refine go ?_
  refine WO.callE (vs := [.int .i64 n]) Tryd.func32 rfl rfl rfl rfl (sc_small n L) ?_
  rintro v M ⟨rfl, rfl⟩
  refine go ?_
  exact ⟨rfl, [_], ⟨Res.tmp rfl, trivial⟩, _, ent, rfl, rfl⟩
theorem sl_IndexBad (xa : Option Addr) (c : Nat) (p : List Int) (L : List HP) (hp : p.length ≤ 1000000) (r : RdS 1 xa p.length (zv p) L) :
    TriE Tryd.prog 59 #[.slice xa p.length c, .func (.func 34) #[] #[]] (fun v M => (∃ z : Int, v = .int .i64 z ∧ ((z = -1 ∧ ∀ n ∈ p, okN n) ∨ (0 ≤ z ∧ ∃ n ∈ p, ¬okN n))) ∧ M = L) L := by
  refine Tri.of (N := 19) (args := [.slice xa p.length c, .func (.func 34) #[] #[]]) Tryd.func59 rfl rfl rfl ?_
  refine go ?_
  refine W.loopS 524080 rfl (fun i : Nat => [(8, .int .i64 (i : Int))]) (fun _ => L) (fun i => i ≤ p.length ∧ ∀ n ∈ p.take i, okN n) (fun i => p.length - i) 0 ⟨rfl, trivial⟩ ⟨Nat.zero_le _, by simp⟩ (Ent.app ent) ?_
  rintro i bg ⟨hi, hz⟩
  by_cases h : i < p.length
  rotate_left
  · obtain rfl : i = p.length := by omega
    rw [List.take_length] at hz
    refine go ?_
    exact ⟨rfl, [_], ⟨Res.tmp rfl, trivial⟩, L, ent, ⟨-1, rfl, .inl ⟨rfl, hz⟩⟩, rfl⟩
  have hx := zv_get p i h
  have hts : p.take (i + 1) = p.take i ++ [p.getD i 0] := by
    rw [List.take_add_one, List.getD_eq_getElem?_getD, List.getElem?_eq_getElem h]; rfl
  have hmem : p.getD i 0 ∈ p := by rw [List.getD_eq_getElem?_getD, List.getElem?_eq_getElem h]; exact List.getElem_mem h
  obtain ⟨ab, ao, rfl⟩ := r.at (by omega)
  generalize hpe : p.getD i 0 = x at *
  refine go ?_
  refine WO.sv rfl ?_
  refine SV.loadR (v := .int .i64 x) i rfl rds (by omega) hx ?_
  refine WO.callV (g := 34) (vs := [.int .i64 x]) rfl Tryd.func34 rfl rfl rfl rfl (sc_Right1 x _) ?_
  rintro v M ⟨rfl, rfl⟩
  by_cases hx0 : okN x
  · rw [decide_eq_true hx0]
    refine go ?_
    refine ⟨i + 1, ⟨rfl, trivial⟩, rfl, ⟨by omega, ?_⟩, by omega, Ent.app ent⟩
    rw [hts]
    intro n hn
    rcases List.mem_append.1 hn with hn | hn
    · exact hz n hn
    · rw [List.mem_singleton.1 hn]; exact hx0
  · rw [decide_eq_false hx0]
    refine go ?_
    exact ⟨rfl, [_], ⟨Res.tmp rfl, trivial⟩, _, ent, ⟨i, rfl, .inr ⟨by omega, x, hmem, hx0⟩⟩, rfl⟩
theorem sl_ContainsBad (xa : Option Addr) (c : Nat) (p : List Int) (L : List HP) (hp : p.length ≤ 1000000) (r : RdS 1 xa p.length (zv p) L) :
    TriE Tryd.prog 33 #[.slice xa p.length c, .func (.func 34) #[] #[]] (fun v M => v = .bool (!decide (∀ n ∈ p, okN n)) ∧ M = L) L := by
  refine Tri.of (N := 9) (args := [.slice xa p.length c, .func (.func 34) #[] #[]]) Tryd.func33 rfl rfl rfl ?_
  refine go ?_
  refine WO.callE (vs := [.slice xa p.length c, .func (.func 34) #[] #[]]) Tryd.func59 rfl rfl rfl rfl (sl_IndexBad xa c p _ hp r) ?_
  rintro v M ⟨⟨z, rfl, hz⟩, rfl⟩
  rcases hz with ⟨rfl, hz⟩ | ⟨h1, n, h2, h3⟩
  · rw [decide_eq_true hz]
    refine go ?_
    exact ⟨rfl, [_], ⟨Res.tmp rfl, trivial⟩, _, ent, rfl, rfl⟩
  · rw [decide_eq_false (fun q => h3 (q n h2))]
    refine go ?_
    exact ⟨rfl, [_], ⟨Res.tmp rfl, trivial⟩, _, ent, rfl, rfl⟩
theorem sc_Right (A : Ac) (ka : Option Addr) (kc : Nat) (L : List HP) (hk : A.ks.length ≤ 1000000) (ht : ∀ j, (A.ts.getD j []).length ≤ 1000000000) (r : RdS 1 ka A.ks.length (zv A.ks) L) :
    TriE Tryd.prog 10 #[acV A ka kc] (fun v M => (∃ t : Bool, v = .bool t ∧ (t = true ↔ A.right)) ∧ M = L) L := by
  have hri := A.right_clean
  have hba := A.clean_bare
  have hks : A.clean.ks.length ≤ 1000000 := by
    unfold Ac.clean
    dsimp only
    split
    · exact hk
    · simp
  have htl : ∀ j, (A.clean.ts.getD j []).length ≤ 1000000000 := fun j => by
    by_cases h : j < ntx A.k
    · rw [A.clean_t h]; exact ht j
    · rw [hba.2.2.1 j (by rw [Ac.clean_k]; omega)]; decide
  refine Tri.of (N := 49) (args := [acV A ka kc]) Tryd.func10 rfl rfl rfl ?_
  obtain ⟨k, ns, ts, ks⟩ := A
  have hcle := sc_Clean ⟨k, ns, ts, ks⟩ ka kc
  unfold acV at hcle ⊢
  dsimp only at hk r hcle ⊢
  generalize Ac.clean ⟨k, ns, ts, ks⟩ = C at *
  obtain ⟨k', ns', ts', ks'⟩ := C
  dsimp only at *
  unfold acL at hcle ⊢
  refine go ?_
  intro b1
  refine go ?_
  refine WO.callE (vs := [.agg [Value.int .i64 k, .int .i64 (ns.getD 0 0), .int .i64 (ns.getD 1 0), .int .i64 (ns.getD 2 0), .int .i64 (ns.getD 3 0), .int .i64 (ns.getD 4 0), strV (ts.getD 0 []), strV (ts.getD 1 []), .slice ka ks.length kc].toArray]) Tryd.func9 rfl rfl rfl rfl (hcle _ hk r.cons) ?_
  rintro v M ⟨a, c, rfl, sa, rfl⟩
  have no : ¬Ac.right ⟨k', ns', ts', ks'⟩ → (false = true ↔ Ac.right ⟨k, ns, ts, ks⟩) := fun q => ⟨fun z => (by cases z), fun z => absurd (hri.2 z) q⟩
  unfold Ac.right at no
  dsimp only at no
  unfold Ac.bare at hba
  dsimp only at hba
  have ht0 := htl 0
  have ht1 := htl 1
  by_cases q1 : k' < 0
  · refine go ?_
    exact ⟨rfl, [_], ⟨Res.tmp rfl, trivial⟩, L, ent, ⟨false, rfl, no fun z => by have := z.1; omega⟩, rfl⟩
  by_cases q2 : 12 < k'
  · refine go ?_
    exact ⟨rfl, [_], ⟨Res.tmp rfl, trivial⟩, L, ent, ⟨false, rfl, no fun z => by have := z.2.1; omega⟩, rfl⟩
  by_cases q3 : 200 < (ts'.getD 0 []).length
  · refine go ?_
    exact ⟨rfl, [_], ⟨Res.tmp rfl, trivial⟩, L, ent, ⟨false, rfl, no fun z => by
      by_cases w : 0 < ntx k'
      · have := z.2.2.2.1 0 w; omega
      · rw [hba.2.2.1 0 (by omega)] at q3; simp at q3⟩, rfl⟩
  by_cases q4 : 200 < (ts'.getD 1 []).length
  · refine go ?_
    exact ⟨rfl, [_], ⟨Res.tmp rfl, trivial⟩, L, ent, ⟨false, rfl, no fun z => by
      by_cases w : 1 < ntx k'
      · have := z.2.2.2.1 1 w; omega
      · rw [hba.2.2.1 1 (by omega)] at q4; simp at q4⟩, rfl⟩
  by_cases q5 : 100 < ks'.length
  · refine go ?_
    exact ⟨rfl, [_], ⟨Res.tmp rfl, trivial⟩, L, ent, ⟨false, rfl, no fun z => by
      by_cases w : k' = 12
      · have := (z.2.2.2.2 w).1; omega
      · rw [hba.2.2.2 w] at q5; simp at q5⟩, rfl⟩
  refine go ?_
  refine WO.ent (show Ent _ (pts b1 (.cells (acL k' ns' ts' (.slice a ks'.length c)).toArray 24) :: OK2 a c ks' :: L) from ent) ?_
  refine WO.callE (vs := [.pointer (some ⟨b1, 0, none⟩)]) Tryd.func26 rfl rfl rfl rfl (sc_parts b1 k' ns' ts' _ _ inferInstance) ?_
  rintro v M ⟨fa, fc, rfl, sfa, rfl⟩
  have hp := pidx_ok k'
  refine go ?_
  refine W.loopS 35150012350484 rfl (fun i : Nat => [(35, .int .i64 (i : Int))]) (fun _ => OP fa fc b1 (pidx k') :: pts b1 (.cells (acL k' ns' ts' (.slice a ks'.length c)).toArray 24) :: OK2 a c ks' :: L)
    (fun i => i ≤ (pidx k').length ∧ ∀ j ∈ (pidx k').take i, okN (ns'.getD j 0)) (fun i => (pidx k').length - i) 0 ⟨rfl, trivial⟩ ⟨Nat.zero_le _, by simp⟩ (Ent.app ent) ?_
  rintro i bg ⟨hi, hz⟩
  by_cases h : i < (pidx k').length
  · have hj := hp.2.1 _ (List.getElem_mem h)
    have p1 := ptV_get b1 1 (pidx k') i h
    have hts : (pidx k').take (i + 1) = (pidx k').take i ++ [(pidx k')[i]] := by rw [List.take_add_one, List.getElem?_eq_getElem h]; rfl
    have hmem : (pidx k')[i] ∈ pidx k' := List.getElem_mem h
    have rdf : ∀ X, RdS 1 fa (pidx k').length (ptV b1 1 (pidx k')) (OP fa fc b1 (pidx k') :: X) := fun X => by unfold OP; exact RdS.ownS Tk.here sfa (by simp [ptV])
    obtain ⟨fb, rfl⟩ := sfa (by omega)
    generalize (pidx k')[i] = j at *
    have hget := acL_get k' ns' ts' (.slice a ks'.length c) hj
    refine go ?_
    refine WO.sv rfl ?_
    refine SV.loadR (v := .pointer (some ⟨b1, 1 + j, none⟩)) i rfl (rdf _) (by omega) p1 ?_
    refine go ?_
    refine WO.sv rfl ?_
    refine SV.loadR (v := .int .i64 (ns'.getD j 0)) (1 + j) rfl (RdS.all (sz := 1) (n := 9) rfl).cons (by omega) hget ?_
    refine WO.callE (vs := [.int .i64 (ns'.getD j 0)]) Tryd.func32 rfl rfl rfl rfl (sc_small _ _) ?_
    rintro v M ⟨rfl, rfl⟩
    by_cases hx0 : okN (ns'.getD j 0)
    · rw [decide_eq_true hx0]
      refine go ?_
      refine ⟨i + 1, ⟨rfl, trivial⟩, rfl, ⟨by omega, ?_⟩, by omega, Ent.app ent⟩
      rw [hts]
      intro n hn
      rcases List.mem_append.1 hn with hn | hn
      · exact hz n hn
      · rw [List.mem_singleton.1 hn]; exact hx0
    · rw [decide_eq_false hx0]
      refine go ?_
      exact ⟨rfl, [_], ⟨Res.tmp rfl, trivial⟩, L, ent, ⟨false, rfl, no fun z => hx0 (z.2.2.1 j hmem)⟩, rfl⟩
  obtain rfl : i = (pidx k').length := by omega
  rw [List.take_length] at hz
  refine go ?_
  refine WO.callE (vs := [.slice a ks'.length c, .func (.func 34) #[] #[]]) Tryd.func33 rfl rfl rfl rfl (sl_ContainsBad a c ks' _ hks (by unfold OK2; exact RdS.ownS (Tk.there (Tk.there Tk.here)) sa (zv_len _))) ?_
  rintro v M ⟨rfl, rfl⟩
  by_cases hx0 : ∀ n ∈ ks', okN n
  · rw [decide_eq_true hx0]
    refine go ?_
    refine ⟨rfl, [_], ⟨Res.tmp rfl, trivial⟩, L, ent, ⟨true, rfl, ⟨fun _ => hri.1 ?_, fun _ => rfl⟩⟩, rfl⟩
    refine ⟨by dsimp only; omega, by dsimp only; omega, hz, fun j hj => ?_, fun _ => ⟨by dsimp only; omega, hx0⟩⟩
    have hn2 := ntx_le k'
    dsimp only at hj ⊢
    match j with
    | 0 => omega
    | 1 => omega
    | j + 2 => omega
  · rw [decide_eq_false hx0]
    refine go ?_
    exact ⟨rfl, [_], ⟨Res.tmp rfl, trivial⟩, L, ent, ⟨false, rfl, no fun z => by
      by_cases w : k' = 12
      · exact hx0 (z.2.2.2.2 w).2
      · rw [hba.2.2.2 w] at hx0; exact hx0 (by simp)⟩, rfl⟩
end Go.SL
