/- Layer 32 (script), the plain law: numbers, texts, words. -/
import Derived.KernelRfl
import Derived.Laws.StructEq
import Derived.Lib.IndexLaws
import Derived.Tactics
import Derived.Test.YtcjpiceklicmoaaGreatDoorSlG
import Derived.Test.YtcjpiceklicmoaaGreatDoorSlJ
import Derived.Test.YtcjpiceklicmoaaGreatDoorSlL
import Derived.Test.YtcjpiceklicmoaaGreatDoorSlN
import Derived.Test.YtcjpiceklicmoaaGreatDoorSlO
import Derived.Test.YtcjpiceklicmoaaGreatDoorSlP
import Derived.Test.YtcjpiceklicmoaaGreatDoorSlR
import Derived.Test.YtcjpiceklicmoaaGreatDoorTy
namespace Go.SL
set_option linter.unusedVariables false
set_option linter.unusedSimpArgs false
set_option linter.unusedSectionVars false

abbrev BL := List UInt8
def dgt (n : Nat) : UInt8 := UInt8.ofNat (48 + n)
theorem dgt_nat {n : Nat} (h : n < 10) : (dgt n).toNat = 48 + n := by
  unfold dgt
  rw [UInt8.toNat_ofNat']
  omega
def dg (n : Nat) : BL := if h : n < 10 then [dgt n] else dg (n / 10) ++ [dgt (n % 10)]
termination_by n
theorem dg_lt {n : Nat} (h : n < 10) : dg n = [dgt n] := by unfold dg; rw [dif_pos h]
theorem dg_ge {n : Nat} (h : ¬n < 10) : dg n = dg (n / 10) ++ [dgt (n % 10)] := by
  conv => lhs; unfold dg
  rw [dif_neg h]
theorem dg_ne (n : Nat) : dg n ≠ [] := by
  by_cases h : n < 10
  · rw [dg_lt h]; simp
  · rw [dg_ge h]; simp
def isD (c : UInt8) : Prop := 48 ≤ c.toNat ∧ c.toNat ≤ 57
theorem isD_dgt {n : Nat} (h : n < 10) : isD (dgt n) := by unfold isD; rw [dgt_nat h]; omega
theorem dgt_isD {c : UInt8} (h : isD c) : dgt (c.toNat - 48) = c := by
  obtain ⟨h1, h2⟩ := h
  apply UInt8.toNat_inj.1
  rw [dgt_nat (by omega)]; omega
def val (s : BL) : Nat := s.foldl (fun v c => v * 10 + (c.toNat - 48)) 0
theorem val_snoc (s : BL) (c : UInt8) : val (s ++ [c]) = val s * 10 + (c.toNat - 48) := by
  unfold val; rw [List.foldl_append]; rfl
theorem val_le (s r : BL) : val s ≤ val (s ++ r) := by
  induction r generalizing s with
  | nil => rw [List.append_nil]; exact Nat.le_refl _
  | cons c r ih =>
    have h1 := ih (s ++ [c])
    have h2 := val_snoc s c
    rw [List.append_assoc] at h1
    simp only [List.singleton_append] at h1
    omega
theorem val_dg (n : Nat) : val (dg n) = n := by
  induction n using Nat.strongRecOn with
  | ind n ih =>
    by_cases h : n < 10
    · rw [dg_lt h]
      show 0 * 10 + ((dgt n).toNat - 48) = n
      rw [dgt_nat h]; omega
    · rw [dg_ge h, val_snoc, ih (n / 10) (by omega), dgt_nat (by omega)]; omega
theorem dg_inj {n m : Nat} (h : dg n = dg m) : n = m := by rw [← val_dg n, h, val_dg]
theorem dg_digit (n : Nat) : ∀ c ∈ dg n, isD c := by
  induction n using Nat.strongRecOn with
  | ind n ih =>
    by_cases h : n < 10
    · rw [dg_lt h]; intro c hc; rw [List.mem_singleton.1 hc]; exact isD_dgt h
    · rw [dg_ge h]
      intro c hc
      rcases List.mem_append.1 hc with hc | hc
      · exact ih (n / 10) (by omega) c hc
      · rw [List.mem_singleton.1 hc]; exact isD_dgt (by omega)
theorem dg_head (n : Nat) : ∀ c r, dg n = c :: r → c.toNat = 48 → r = [] := by
  induction n using Nat.strongRecOn with
  | ind n ih =>
    intro c r e hc
    by_cases h : n < 10
    · rw [dg_lt h] at e; injection e with _ e; exact e.symm
    · rw [dg_ge h] at e
      cases hd : dg (n / 10) with
      | nil => exact absurd hd (dg_ne _)
      | cons c' r' =>
        rw [hd] at e
        injection e with e1 e2
        subst e1
        have h1 := ih (n / 10) (by omega) c' r' hd hc
        subst h1
        by_cases h2 : n / 10 < 10
        · rw [dg_lt h2] at hd
          injection hd with h3 _
          rw [← h3, dgt_nat h2] at hc
          omega
        · rw [dg_ge h2] at hd
          have := congrArg List.length hd
          have h4 : (dg (n / 10 / 10)).length ≠ 0 := fun z => dg_ne _ (List.length_eq_zero_iff.1 z)
          simp at this
          exact absurd this (dg_ne _)
theorem dg_val (s : BL) : (∀ c ∈ s, isD c) → s ≠ [] → (∀ c r, s = c :: r → c.toNat = 48 → r = []) → dg (val s) = s := by
  induction hn : s.length generalizing s with
  | zero => intro _ h; exact absurd (List.length_eq_zero_iff.1 hn) h
  | succ k ih =>
    intro hd hne hz
    obtain ⟨t, c, rfl⟩ : ∃ t c, s = t ++ [c] := ⟨s.dropLast, s.getLast hne, (List.dropLast_concat_getLast hne).symm⟩
    have hc : isD c := hd c (by simp)
    have hcl : c.toNat - 48 < 10 := by unfold isD at hc; omega
    rw [val_snoc]
    cases t with
    | nil =>
      show dg (0 * 10 + (c.toNat - 48)) = [c]
      rw [show 0 * 10 + (c.toNat - 48) = c.toNat - 48 by omega, dg_lt hcl, dgt_isD hc]
    | cons a r =>
      have h1 := ih (a :: r) (by simp at hn; simpa using hn) (fun x hx => hd x (by simp at hx ⊢; rcases hx with hx | hx <;> simp [hx])) (by simp) (fun x y e hx => by
        injection e with e1 e2
        have := hz a (r ++ [c]) rfl (by rw [e1]; exact hx)
        simp at this)
      have h0 : val (a :: r) ≠ 0 := by
        intro z
        rw [z, dg_lt (by decide)] at h1
        injection h1 with h2 h3
        have := hz a (r ++ [c]) rfl (by rw [← h2]; decide)
        simp at this
      rw [dg_ge (by omega), show (val (a :: r) * 10 + (c.toNat - 48)) / 10 = val (a :: r) by omega, h1, show (val (a :: r) * 10 + (c.toNat - 48)) % 10 = c.toNat - 48 by omega, dgt_isD hc]
theorem dg_blank (n : Nat) : (32 : UInt8) ∉ dg n := fun h => by
  have := dg_digit n _ h
  unfold isD at this
  revert this
  decide
theorem dg_lenP : ∀ k n, n < 10 ^ k → 0 < k → (dg n).length ≤ k := by
  intro k
  induction k with
  | zero => intro n _ h; omega
  | succ k ih =>
    intro n hn _
    by_cases h : n < 10
    · rw [dg_lt h]; simp
    · rw [dg_ge h]
      have hk : 0 < k := by
        rcases Nat.eq_zero_or_pos k with z | z
        · subst z; simp at hn; omega
        · exact z
      have := ih (n / 10) (by rw [Nat.pow_succ] at hn; omega) hk
      simp; omega
theorem dg_len {n : Nat} (h : n < 2147483648) : (dg n).length ≤ 10 := dg_lenP 10 n (by omega) (by decide)
theorem dg_len20 {n : Nat} (h : n ≤ 1000000000000) : (dg n).length ≤ 20 := dg_lenP 20 n (by omega) (by decide)

/-- Hexes. -/
def hxc (n : Nat) : UInt8 := if n < 10 then UInt8.ofNat (48 + n) else UInt8.ofNat (87 + n)
def hexL : BL := [48, 49, 50, 51, 52, 53, 54, 55, 56, 57, 97, 98, 99, 100, 101, 102]
theorem hexL_get : ∀ n : Nat, n < 16 → hexL[n]? = some (hxc n) := by decide
theorem hxc_nat {n : Nat} (h : n < 16) : (hxc n).toNat = if n < 10 then 48 + n else 87 + n := by
  unfold hxc
  split <;> rw [UInt8.toNat_ofNat'] <;> omega
theorem hxc_inj {a b : Nat} (ha : a < 16) (hb : b < 16) (h : hxc a = hxc b) : a = b := by
  have := congrArg UInt8.toNat h
  rw [hxc_nat ha, hxc_nat hb] at this
  split at this <;> split at this <;> omega
def hxb (b : UInt8) : BL := [hxc (b.toNat / 16), hxc (b.toNat % 16)]
theorem u8_lt (b : UInt8) : b.toNat < 256 := b.toNat_lt
theorem hxb_inj {a b : UInt8} (h : hxb a = hxb b) : a = b := by
  unfold hxb at h
  injection h with h1 h2
  injection h2 with h2 _
  have ha := u8_lt a
  have hb := u8_lt b
  have e1 := hxc_inj (by omega) (by omega) h1
  have e2 := hxc_inj (by omega) (by omega) h2
  exact UInt8.toNat_inj.1 (by omega)
theorem hxf_inj : ∀ {s t : BL}, s.flatMap hxb = t.flatMap hxb → s = t
  | [], [], _ => rfl
  | [], b :: t, h => by simp [hxb] at h
  | a :: s, [], h => by simp [hxb] at h
  | a :: s, b :: t, h => by
    simp only [List.flatMap_cons] at h
    obtain ⟨h1, h2⟩ := List.append_inj h rfl
    rw [hxb_inj h1, hxf_inj h2]
def hexT (s : BL) : BL := if s = [] then [45] else s.flatMap hxb
theorem hexT_nil : hexT [] = [45] := rfl
theorem hexT_cons {s : BL} (h : s ≠ []) : hexT s = s.flatMap hxb := by unfold hexT; rw [if_neg h]
theorem hxf_len : ∀ s : BL, (s.flatMap hxb).length = 2 * s.length
  | [] => rfl
  | a :: s => by simp only [List.flatMap_cons, List.length_append, List.length_cons, hxf_len s]; simp [hxb]; omega
theorem hexT_inj {s t : BL} (h : hexT s = hexT t) : s = t := by
  by_cases hs : s = []
  · subst hs
    by_cases ht : t = []
    · exact ht.symm
    · rw [hexT_nil, hexT_cons ht] at h
      have := congrArg List.length h
      rw [hxf_len] at this
      simp at this; omega
  · by_cases ht : t = []
    · subst ht
      rw [hexT_nil, hexT_cons hs] at h
      have := congrArg List.length h
      rw [hxf_len] at this
      simp at this; omega
    · rw [hexT_cons hs, hexT_cons ht] at h; exact hxf_inj h
/-- Where a byte stands among the hexes. -/
def hxi (c : UInt8) : Int := if isHd : 48 ≤ c.toNat ∧ c.toNat ≤ 57 then (c.toNat : Int) - 48 else if 97 ≤ c.toNat ∧ c.toNat ≤ 102 then (c.toNat : Int) - 87 else -1
theorem hxi_hxc {n : Nat} (h : n < 16) : hxi (hxc n) = n := by
  unfold hxi
  rw [hxc_nat h]
  by_cases h1 : n < 10
  · rw [if_pos h1, dif_pos (by omega)]; omega
  · rw [if_neg h1, dif_neg (by omega), if_pos (by omega)]; omega
theorem hxc_hxi {c : UInt8} (h : 0 ≤ hxi c) : (hxi c).toNat < 16 ∧ hxc (hxi c).toNat = c := by
  unfold hxi at h ⊢
  split
  · rename_i h1
    refine ⟨by omega, UInt8.toNat_inj.1 ?_⟩
    rw [hxc_nat (by omega), if_pos (by omega)]; omega
  · rename_i h1
    rw [dif_neg h1] at h
    split
    · rename_i h2
      refine ⟨by omega, UInt8.toNat_inj.1 ?_⟩
      rw [hxc_nat (by omega), if_neg (by omega)]; omega
    · rename_i h2
      rw [if_neg h2] at h; omega
theorem hxf_get : ∀ (s : BL) (i : Nat) (c : UInt8), (s.flatMap hxb)[i]? = some c → 0 ≤ hxi c
  | [], i, c, h => by simp at h
  | a :: s, 0, c, h => by
    have ha := u8_lt a
    simp [hxb] at h; rw [← h, hxi_hxc (by omega)]; omega
  | a :: s, 1, c, h => by
    have ha := u8_lt a
    simp [hxb] at h; rw [← h, hxi_hxc (by omega)]; omega
  | a :: s, i + 2, c, h => hxf_get s i c (by simpa [hxb] using h)
theorem hxf_blank (s : BL) : (32 : UInt8) ∉ s.flatMap hxb := fun h => by
  obtain ⟨i, hi⟩ := List.getElem?_of_mem h
  have := hxf_get s i 32 hi
  revert this
  decide
theorem hexT_blank (s : BL) : (32 : UInt8) ∉ hexT s := by
  by_cases h : s = []
  · subst h; decide
  · rw [hexT_cons h]; exact hxf_blank s
theorem hexT_len (s : BL) : (hexT s).length ≤ 2 * s.length + 1 := by
  by_cases h : s = []
  · subst h; decide
  · rw [hexT_cons h, hxf_len]; omega

/-- Words with blanks between. -/
def jn : List BL → BL
  | [] => []
  | [w] => w
  | w :: v :: r => w ++ 32 :: jn (v :: r)
theorem jn_cons {w : BL} {r : List BL} (h : r ≠ []) : jn (w :: r) = w ++ 32 :: jn r := by
  cases r with
  | nil => exact absurd rfl h
  | cons v r => rfl
theorem cut_uniq : ∀ {a b x y : BL}, (32 : UInt8) ∉ a → (32 : UInt8) ∉ b → a ++ 32 :: x = b ++ 32 :: y → a = b ∧ x = y
  | [], [], x, y, _, _, h => ⟨rfl, by simpa using h⟩
  | [], b :: b1, x, y, _, hb, h => by
    simp only [List.nil_append, List.cons_append, List.cons.injEq] at h
    exact absurd (by rw [h.1]; exact List.mem_cons_self) hb
  | a :: a1, [], x, y, ha, _, h => by
    simp only [List.nil_append, List.cons_append, List.cons.injEq] at h
    exact absurd (by rw [← h.1]; exact List.mem_cons_self) ha
  | a :: a1, b :: b1, x, y, ha, hb, h => by
    simp only [List.cons_append, List.cons.injEq] at h
    obtain ⟨h1, h2⟩ := cut_uniq (a := a1) (b := b1) (fun z => ha (List.mem_cons_of_mem _ z)) (fun z => hb (List.mem_cons_of_mem _ z)) h.2
    exact ⟨by rw [h.1, h1], h2⟩
theorem jn_uniq : ∀ {l m : List BL}, l ≠ [] → m ≠ [] → (∀ w ∈ l, (32 : UInt8) ∉ w) → (∀ w ∈ m, (32 : UInt8) ∉ w) → jn l = jn m → l = m
  | [], _, h, _, _, _, _ => absurd rfl h
  | _, [], _, h, _, _, _ => absurd rfl h
  | [w], [v], _, _, _, _, h => by simp only [jn] at h; rw [h]
  | [w], v :: v' :: m, _, _, hl, hm, h => by
    rw [jn_cons (List.cons_ne_nil _ _)] at h
    simp only [jn] at h
    exact absurd (by rw [h]; simp) (hl w List.mem_cons_self)
  | w :: w' :: l, [v], _, _, hl, hm, h => by
    rw [jn_cons (List.cons_ne_nil _ _)] at h
    simp only [jn] at h
    exact absurd (by rw [← h]; simp) (hm v List.mem_cons_self)
  | w :: w' :: l, v :: v' :: m, _, _, hl, hm, h => by
    rw [jn_cons (List.cons_ne_nil _ _), jn_cons (List.cons_ne_nil _ _)] at h
    obtain ⟨h1, h2⟩ := cut_uniq (hl w List.mem_cons_self) (hm v List.mem_cons_self) h
    have := jn_uniq (l := w' :: l) (m := v' :: m) (List.cons_ne_nil _ _) (List.cons_ne_nil _ _) (fun x hx => hl x (List.mem_cons_of_mem _ hx)) (fun x hx => hm x (List.mem_cons_of_mem _ hx)) h2
    rw [h1, this]
theorem jn_snoc : ∀ (l : List BL) (w : BL), l ≠ [] → jn (l ++ [w]) = jn l ++ 32 :: w
  | [], w, h => absurd rfl h
  | [v], w, _ => rfl
  | v :: v' :: l, w, _ => by
    show jn (v :: ((v' :: l) ++ [w])) = _
    rw [jn_cons (by simp), jn_snoc (v' :: l) w (List.cons_ne_nil _ _), jn_cons (List.cons_ne_nil _ _)]
    simp
end Go.SL

/- Layer 32 (script), the plain law: acts and their words. -/
namespace Go.SL
set_option linter.unusedVariables false
set_option linter.unusedSimpArgs false
set_option linter.unusedSectionVars false

def verbL : List BL := [[108, 111, 99, 97, 108], [101, 120, 112, 111, 114, 116], [115, 116, 97, 103, 101], [105, 109, 112, 111, 114, 116], [108, 101, 97, 114, 110], [100, 114, 111, 112], [115, 112, 111, 105, 108], [102, 111, 114, 103, 101], [119, 114, 97, 112], [99, 97, 114, 114, 121], [117, 110, 119, 114, 97, 112], [97, 114, 109], [102, 97, 108, 108]]
theorem verb_inj : ∀ i j : Fin 13, verbL.getD i [] = verbL.getD j [] → i = j := by decide
theorem verb_blank : ∀ w ∈ verbL, (32 : UInt8) ∉ w := by decide
theorem verb_ne : ∀ w ∈ verbL, w ≠ [] := by decide
/-- Which numbers a kind's line has. -/
def pidxN : Nat → List Nat
  | 0 => [0, 3]
  | 1 => [0, 1, 3, 4]
  | 2 => [0, 2]
  | 3 => [0]
  | 4 => [0, 2]
  | 5 => [0]
  | 6 => [2, 1, 3]
  | 8 => [2, 4]
  | 9 => [0, 2]
  | 10 => [2]
  | 11 => [0, 3]
  | 12 => [0]
  | _ => []
def pidx (k : Int) : List Nat := if k < 0 then [] else pidxN k.toNat
def ntx (k : Int) : Nat := if k = 0 then 2 else if k = 7 then 1 else 0
theorem pidxN_big {k : Nat} (h : 12 < k) : pidxN k = [] := by
  unfold pidxN
  split <;> first | omega | rfl
theorem pidxN_ok (k : Nat) : (pidxN k).Nodup ∧ (∀ j ∈ pidxN k, j < 5) ∧ (pidxN k).length ≤ 4 := by
  by_cases h : k < 13
  · have : ∀ k : Fin 13, (pidxN k).Nodup ∧ (∀ j ∈ pidxN k, j < 5) ∧ (pidxN k).length ≤ 4 := by decide
    exact this ⟨k, h⟩
  · rw [pidxN_big (by omega)]; simp
theorem pidx_ok (k : Int) : (pidx k).Nodup ∧ (∀ j ∈ pidx k, j < 5) ∧ (pidx k).length ≤ 4 := by
  unfold pidx
  split
  · simp
  · exact pidxN_ok _
theorem pidx_big {k : Int} (h : ¬(0 ≤ k ∧ k ≤ 12)) : pidx k = [] := by
  unfold pidx
  split
  · rfl
  · exact pidxN_big (by omega)
theorem ntx_le (k : Int) : ntx k ≤ 2 := by unfold ntx; repeat (first | omega | split)

structure Ac where
  k : Int
  ns : List Int
  ts : List BL
  ks : List Int
def okN (n : Int) : Prop := 0 ≤ n ∧ n < 2147483648
instance (n : Int) : Decidable (okN n) := by unfold okN; infer_instance
namespace Ac
def clean (A : Ac) : Ac := ⟨A.k, (List.range 5).map fun j => if j ∈ pidx A.k then A.ns.getD j 0 else 0, (List.range 2).map fun j => if j < ntx A.k then A.ts.getD j [] else [], if A.k = 12 then A.ks else []⟩
def right (A : Ac) : Prop := 0 ≤ A.k ∧ A.k ≤ 12 ∧ (∀ j ∈ pidx A.k, okN (A.ns.getD j 0)) ∧ (∀ j, j < ntx A.k → (A.ts.getD j []).length ≤ 200) ∧ (A.k = 12 → A.ks.length ≤ 100 ∧ ∀ n ∈ A.ks, okN n)
def nw (ns : List Int) (l : List Nat) : List BL := l.map fun j => dg (ns.getD j 0).toNat
def tw (ts : List BL) (n : Nat) : List BL := (List.range n).map fun j => hexT (ts.getD j [])
def kw (ks : List Int) : List BL := ks.map fun n : Int => dg n.toNat
def ws (A : Ac) : List BL := verbL.getD A.k.toNat [] :: (nw A.ns (pidx A.k) ++ (tw A.ts (ntx A.k) ++ (if A.k = 12 then kw A.ks else [])))
theorem rg_get {α : Type} (f : Nat → α) (n j : Nat) (d : α) (h : j < n) : ((List.range n).map f).getD j d = f j := by
  rw [List.getD_eq_getElem?_getD, List.getElem?_map, List.getElem?_range h]; rfl
theorem clean_n (A : Ac) {j : Nat} (h : j ∈ pidx A.k) : A.clean.ns.getD j 0 = A.ns.getD j 0 := by
  unfold clean
  rw [rg_get _ _ _ _ ((pidx_ok _).2.1 j h), if_pos h]
theorem clean_t (A : Ac) {j : Nat} (h : j < ntx A.k) : A.clean.ts.getD j [] = A.ts.getD j [] := by
  have := ntx_le A.k
  unfold clean
  rw [rg_get _ _ _ _ (by omega), if_pos h]
theorem clean_k (A : Ac) : A.clean.k = A.k := rfl
theorem ws_clean (A : Ac) : A.clean.ws = A.ws := by
  unfold ws
  rw [clean_k]
  congr 1
  congr 1
  · exact List.map_congr_left fun j hj => by rw [clean_n A hj]
  · congr 1
    · exact List.map_congr_left fun j hj => by rw [clean_t A (List.mem_range.1 hj)]
    · by_cases h : A.k = 12
      · rw [if_pos h, if_pos h]; unfold clean; dsimp only; rw [if_pos h]
      · rw [if_neg h, if_neg h]
theorem right_clean (A : Ac) : A.clean.right ↔ A.right := by
  unfold right
  rw [clean_k]
  have h1 : (∀ j ∈ pidx A.k, okN (A.clean.ns.getD j 0)) ↔ ∀ j ∈ pidx A.k, okN (A.ns.getD j 0) :=
    ⟨fun h j hj => by rw [← clean_n A hj]; exact h j hj, fun h j hj => by rw [clean_n A hj]; exact h j hj⟩
  have h2 : (∀ j, j < ntx A.k → (A.clean.ts.getD j []).length ≤ 200) ↔ ∀ j, j < ntx A.k → (A.ts.getD j []).length ≤ 200 :=
    ⟨fun h j hj => by rw [← clean_t A hj]; exact h j hj, fun h j hj => by rw [clean_t A hj]; exact h j hj⟩
  have h3 : (A.k = 12 → A.clean.ks.length ≤ 100 ∧ ∀ n ∈ A.clean.ks, okN n) ↔ (A.k = 12 → A.ks.length ≤ 100 ∧ ∀ n ∈ A.ks, okN n) := by
    by_cases h : A.k = 12
    · have : A.clean.ks = A.ks := by unfold clean; dsimp only; rw [if_pos h]
      rw [this]
    · exact ⟨fun _ z => absurd z h, fun _ z => absurd z h⟩
  rw [h1, h2, h3]
theorem nw_len (ns : List Int) (l : List Nat) : (nw ns l).length = l.length := by simp [nw]
theorem tw_len (ts : List BL) (n : Nat) : (tw ts n).length = n := by simp [tw]
theorem kw_len (ks : List Int) : (kw ks).length = ks.length := by simp [kw]
theorem kw_inj : ∀ {l m : List Int}, (∀ n ∈ l, okN n) → (∀ n ∈ m, okN n) → kw l = kw m → l = m
  | [], [], _, _, _ => rfl
  | [], b :: m, _, _, h => by simp [kw] at h
  | a :: l, [], _, _, h => by simp [kw] at h
  | a :: l, b :: m, hl, hm, h => by
    simp only [kw, List.map_cons, List.cons.injEq] at h
    have h1 := dg_inj h.1
    have h2 := hl a List.mem_cons_self
    have h3 := hm b List.mem_cons_self
    unfold okN at h2 h3
    rw [show a = b by omega, kw_inj (fun n hn => hl n (List.mem_cons_of_mem _ hn)) (fun n hn => hm n (List.mem_cons_of_mem _ hn)) h.2]
theorem ws_kind {A : Ac} {k : Int} {r : List BL} (h : A.right) (hk : 0 ≤ k ∧ k ≤ 12) (e : A.ws = verbL.getD k.toNat [] :: r) : A.k = k ∧ nw A.ns (pidx k) ++ (tw A.ts (ntx k) ++ (if k = 12 then kw A.ks else [])) = r := by
  obtain ⟨h1, h2, _⟩ := h
  unfold ws at e
  injection e with e1 e2
  have := verb_inj ⟨A.k.toNat, by omega⟩ ⟨k.toNat, by omega⟩ e1
  have hk2 : A.k = k := by
    have := congrArg Fin.val this
    dsimp only at this
    omega
  rw [hk2] at e2
  exact ⟨hk2, e2⟩
/-- Two of the same words. -/
theorem same {A B : Ac} (h : A.right) (hk : 0 ≤ B.k ∧ B.k ≤ 12) (hb : ∀ j ∈ pidx B.k, okN (B.ns.getD j 0)) (hb2 : B.k = 12 → ∀ n ∈ B.ks, okN n) (e : A.ws = B.ws) : B.right ∧ A.clean = B.clean := by
  obtain ⟨e1, e2⟩ := ws_kind h hk (r := nw B.ns (pidx B.k) ++ (tw B.ts (ntx B.k) ++ (if B.k = 12 then kw B.ks else []))) e
  obtain ⟨h1, h2, h3, h4, h5⟩ := h
  rw [e1] at h3 h4 h5
  obtain ⟨e3, e4⟩ := List.append_inj e2 (by rw [nw_len, nw_len])
  obtain ⟨e5, e6⟩ := List.append_inj e4 (by rw [tw_len, tw_len])
  have f1 : ∀ j ∈ pidx B.k, A.ns.getD j 0 = B.ns.getD j 0 := fun j hj => by
    have q := dg_inj (List.map_inj_left.1 e3 j hj)
    have q1 := h3 j hj
    have q2 := hb j hj
    unfold okN at q1 q2
    omega
  have f2 : ∀ j, j < ntx B.k → A.ts.getD j [] = B.ts.getD j [] := fun j hj => hexT_inj (List.map_inj_left.1 e5 j (List.mem_range.2 hj))
  have f3 : B.k = 12 → A.ks = B.ks := fun z => by
    rw [if_pos z, if_pos z] at e6
    exact kw_inj (h5 z).2 (hb2 z) e6
  refine ⟨⟨hk.1, hk.2, hb, fun j hj => by rw [← f2 j hj]; exact h4 j hj, fun z => by rw [← f3 z]; exact h5 z⟩, ?_⟩
  unfold clean
  rw [e1]
  congr 1
  · refine List.map_congr_left fun j _ => ?_
    by_cases hj : j ∈ pidx B.k
    · rw [if_pos hj, if_pos hj, f1 j hj]
    · rw [if_neg hj, if_neg hj]
  · refine List.map_congr_left fun j _ => ?_
    by_cases hj : j < ntx B.k
    · rw [if_pos hj, if_pos hj, f2 j hj]
    · rw [if_neg hj, if_neg hj]
  · by_cases z : B.k = 12
    · rw [if_pos z, if_pos z, f3 z]
    · rw [if_neg z, if_neg z]
theorem ws_blank (A : Ac) (h : 0 ≤ A.k ∧ A.k ≤ 12) : ∀ w ∈ A.ws, (32 : UInt8) ∉ w := by
  intro w hw
  unfold ws at hw
  rcases List.mem_cons.1 hw with e | hw
  · refine verb_blank w ?_
    rw [e, List.getD_eq_getElem?_getD, List.getElem?_eq_getElem (show A.k.toNat < verbL.length by show _ < 13; omega)]
    exact List.getElem_mem _
  · rcases List.mem_append.1 hw with hw | hw
    · obtain ⟨j, _, rfl⟩ := List.mem_map.1 hw; exact dg_blank _
    · rcases List.mem_append.1 hw with hw | hw
      · obtain ⟨j, _, rfl⟩ := List.mem_map.1 hw; exact hexT_blank _
      · split at hw
        · obtain ⟨j, _, rfl⟩ := List.mem_map.1 hw; exact dg_blank _
        · cases hw
theorem ws_ne (A : Ac) : A.ws ≠ [] := by unfold ws; exact List.cons_ne_nil _ _
/-- The line. -/
def text (A : Ac) : BL := jn A.ws
end Ac
end Go.SL

/- strings: Split at blanks, walked. -/
namespace Go.SL
open Go.Proofs
set_option linter.unusedVariables false
set_option linter.unusedSimpArgs false
set_option linter.unusedSectionVars false
set_option maxRecDepth 10000
set_option maxHeartbeats 4000000
attribute [local irreducible] W WO SV OW SW Tri Ent Tk Has Src SrcK DA DB DP RdS Own OwnT MapH

end Go.SL

/- strings: Split at blanks, walked. -/
namespace Go.SL
open Go.Proofs
set_option linter.unusedVariables false
set_option linter.unusedSimpArgs false
set_option linter.unusedSectionVars false
set_option maxRecDepth 10000
set_option maxHeartbeats 4000000

theorem ix_split (c : UInt8) : ∀ s : BL, (Lib.indexByte s c = -1 ∧ c ∉ s) ∨ ∃ o : Nat, Lib.indexByte s c = o ∧ o < s.length ∧ s = s.take o ++ c :: s.drop (o + 1) ∧ c ∉ s.take o
  | [] => .inl ⟨rfl, by simp⟩
  | b :: l => by
    unfold Lib.indexByte
    by_cases h : (b == c) = true
    · rw [if_pos h]
      right
      have : b = c := by simpa using h
      subst this
      exact ⟨0, rfl, by simp, by simp, by simp⟩
    · rw [if_neg h]
      have hbc : ¬b = c := by simpa using h
      rcases ix_split c l with ⟨h1, h2⟩ | ⟨o, h1, h2, h3, h4⟩
      · left
        rw [h1]
        exact ⟨rfl, by simp [h2]; exact fun e => hbc e.symm⟩
      · right
        rw [h1]
        refine ⟨o + 1, ?_, by simp; exact h2, ?_, ?_⟩
        · rw [if_neg (by simp)]; omega
        · simp only [List.take_succ_cons, List.drop_succ_cons, List.cons_append]
          rw [← h3]
        · simp only [List.take_succ_cons, List.mem_cons, not_or]
          exact ⟨fun e => hbc e.symm, h4⟩
/-- Words, each with a blank behind it. -/
def pre (w : List BL) : BL := w.flatMap fun x => x ++ [32]
theorem pre_snoc (w : List BL) (x : BL) : pre (w ++ [x]) = pre w ++ (x ++ [32]) := by simp [pre]
theorem pre_jn : ∀ (w : List BL) (x : BL), jn (w ++ [x]) = pre w ++ x
  | [], x => rfl
  | a :: w, x => by
    rw [List.cons_append, jn_cons (by simp), pre_jn w x]
    simp [pre]
theorem take_set {α : Type} (xs : List α) (i : Nat) (w : α) (h : i < xs.length) : (xs.set i w).take (i + 1) = xs.take i ++ [w] := by
  rw [List.take_add_one, List.getElem?_set_self h]
  congr 1
  apply List.ext_getElem?
  intro k
  simp only [List.getElem?_take]
  by_cases hk : k < i
  · rw [if_pos hk, if_pos hk, List.getElem?_set_ne (by omega)]
  · rw [if_neg hk, if_neg hk]
theorem Own.ofPts {E : TypeId} {b n : Nat} {xs : List Value} {L R : List HP} (hl : xs.length = n) (e : Ent L (pts b (.cells xs.toArray E) :: R)) : Ent L (Own E 1 (.slice (some ⟨b, 0, none⟩) n n) n xs :: R) := fun h x => by
  have y := e h x
  refine own_of (sp := []) (fr := (0, 0)) (b := b) (cap := n) ⟨rfl, Nat.le_refl _, by omega, by simp, .inl (Nat.le_refl _)⟩ ?_
  rw [List.append_nil]; exact y
/-- A row of texts. -/
def OZ (a : Option Addr) (c : Nat) (l : List BL) : HP := Own 9 1 (.slice a l.length c) l.length (l.map strV)
attribute [local irreducible] W WO SV OW SW Tri Ent Tk Has Src SrcK DA DB DP RdS Own OwnT MapH
end Go.SL

/- strings: Join with blanks, walked. -/
namespace Go.SL
open Go.Proofs
set_option linter.unusedVariables false
set_option linter.unusedSimpArgs false
set_option linter.unusedSectionVars false
set_option maxRecDepth 10000
set_option maxHeartbeats 4000000
attribute [local irreducible] W WO SV OW SW Tri Ent Tk Has Src SrcK DA DB DP RdS Own OwnT MapH

theorem sb_first (b : Nat) (x : Value) (L : List HP) :
    TriE Tryz.prog 124 #[.pointer (some ⟨b, 0, none⟩)] (fun v M => v = .tuple #[] ∧ M = pts b (.cells [.pointer (some ⟨b, 0, none⟩), x].toArray 130) :: L) (pts b (.cells [.pointer none, x].toArray 130) :: L) := by
  refine Tri.of (N := 20) (args := [.pointer (some ⟨b, 0, none⟩)]) Tryz.func124 rfl rfl rfl ?_
  refine go ?_
  refine WO.sv rfl ?_
  refine SV.toUnsafe rfl Tryz.underlying128 Tryz.underlying219 rfl (by decide) (by simp) ?_
  refine go ?_
  refine WO.sv rfl ?_
  refine SV.noEscape (x := .pointer (some ⟨b, 0, none⟩)) Tryz.func161 rfl rfl rfl rfl rfl ?_
  refine go ?_
  refine WO.sv rfl ?_
  refine SV.ofUnsafe rfl Tryz.underlying219 Tryz.underlying128 rfl (by kernel_rfl) ?_
  refine go ?_
  exact ⟨rfl, [], trivial, _, ent, rfl, rfl⟩
theorem sb_again (b : Nat) (x : Value) (L : List HP) :
    TriE Tryz.prog 124 #[.pointer (some ⟨b, 0, none⟩)] (fun v M => v = .tuple #[] ∧ M = pts b (.cells [.pointer (some ⟨b, 0, none⟩), x].toArray 130) :: L) (pts b (.cells [.pointer (some ⟨b, 0, none⟩), x].toArray 130) :: L) := by
  refine Tri.of (N := 20) (args := [.pointer (some ⟨b, 0, none⟩)]) Tryz.func124 rfl rfl rfl ?_
  refine go ?_
  refine WO.sv rfl ?_
  refine SV.neqPtrSame rfl rfl Tryz.underlying128 rfl ?_
  refine go ?_
  exact ⟨rfl, [], trivial, _, ent, rfl, rfl⟩
def OY (a : Option Addr) (c : Nat) (s : BL) : HP := Own 5 1 (.slice a s.length c) s.length (s.map u8V)
theorem sb_grow (b n : Nat) (L : List HP) (hn : n ≤ 100000000) :
    TriE Tryz.prog 125 #[.pointer (some ⟨b, 0, none⟩), .int .i64 n] (fun v M => v = .tuple #[] ∧ ∃ r c, M = pts b (.cells [.pointer (some ⟨b, 0, none⟩), .slice (some ⟨r, 0, none⟩) 0 c].toArray 130) :: OY (some ⟨r, 0, none⟩) c [] :: L) (pts b (.cells [.pointer (some ⟨b, 0, none⟩), .slice none 0 0].toArray 130) :: L) := by
  refine Tri.of (N := 30) (args := [.pointer (some ⟨b, 0, none⟩), .int .i64 n]) Tryz.func125 rfl rfl rfl ?_
  refine go ?_
  refine W.drawB #[0, 1, 3, 7, 15, 31, 0, 127, 255, 0, 512, 1536, 3584, 7680, 16383, 32767] [pts b (.cells [.pointer (some ⟨b, 0, none⟩), .slice none 0 0].toArray 130)] L rfl (by kernel_rfl) (by kernel_rfl) (by kernel_rfl) ent ?_
  refine go ?_
  refine DB.q (v := .int .i64 ((0 : Nat) : Int)) rfl rfl hl (SV.capS rfl eqq) ?_
  refine go ?_
  refine DB.v rfl rfl rfl hl hl ?_
  refine SV.makeNoZero (n := n) Tryz.func162 rfl rfl rfl rfl (show [Value.int .i64 (2 * ((0 : Nat) : Int) + (n : Int))] = [.int .i64 (n : Int)] by simp) (by omega) ?_
  intro r c hc
  refine ⟨[OY (some ⟨r, 0, none⟩) c []], L, ent, ?_⟩
  refine go ?_
  refine DB.q (v := .slice (some ⟨r, 0, none⟩) 0 c) rfl rfl hl (SV.cut (l := 0) (h := 0) rfl rfl (cutAt.of rfl rfl) (Nat.le_refl _) (Nat.zero_le _) (fun off' ho => by obtain rfl : off' = 0 := (by simpa using ho (.inr rfl)); exact ⟨rfl, rfl⟩)) ?_
  refine go ?_
  refine ⟨pts b (.cells [.pointer (some ⟨b, 0, none⟩), .slice none 0 0].toArray 130) :: OY (some ⟨r, 0, none⟩) c [] :: L, ent, ?_⟩
  refine go ?_
  refine WO.sv rfl ?_
  refine SV.copyZ rfl rfl ?_
  refine go ?_
  exact ⟨rfl, [], trivial, _, ent, rfl, r, c, rfl⟩
theorem sb_Grow (b n : Nat) (L : List HP) (h0 : 0 < n) (hn : n ≤ 100000000) :
    TriE Tryz.prog 69 #[.pointer (some ⟨b, 0, none⟩), .int .i64 n] (fun v M => v = .tuple #[] ∧ ∃ r c, M = pts b (.cells [.pointer (some ⟨b, 0, none⟩), .slice (some ⟨r, 0, none⟩) 0 c].toArray 130) :: OY (some ⟨r, 0, none⟩) c [] :: L) (pts b (.cells [.pointer none, .slice none 0 0].toArray 130) :: L) := by
  refine Tri.of (N := 25) (args := [.pointer (some ⟨b, 0, none⟩), .int .i64 n]) Tryz.func69 rfl rfl rfl ?_
  refine go ?_
  refine WO.callE (vs := [.pointer (some ⟨b, 0, none⟩)]) Tryz.func124 rfl rfl rfl rfl (sb_first b _ L) ?_
  rintro v M ⟨rfl, rfl⟩
  refine go ?_
  refine W.drawB #[0, 1, 3, 7, 15, 0, 32, 96, 224, 480, 1023, 0, 4095] [pts b (.cells [.pointer (some ⟨b, 0, none⟩), .slice none 0 0].toArray 130)] L rfl (by kernel_rfl) (by kernel_rfl) (by kernel_rfl) ent ?_
  refine go ?_
  refine DB.q (v := .int .i64 ((0 : Nat) : Int)) rfl rfl hl (SV.capS rfl eqq) ?_
  refine go ?_
  refine ⟨pts b (.cells [.pointer (some ⟨b, 0, none⟩), .slice none 0 0].toArray 130) :: L, ent, ?_⟩
  refine go ?_
  refine WO.callE (vs := [.pointer (some ⟨b, 0, none⟩), .int .i64 n]) Tryz.func125 rfl rfl rfl rfl (sb_grow b n L hn) ?_
  rintro v M ⟨rfl, r, c, rfl⟩
  refine go ?_
  exact ⟨rfl, [], trivial, _, ent, rfl, r, c, rfl⟩
theorem sb_Write (b c : Nat) (a : Option Addr) (bs s : BL) (L : List HP) (hn : bs.length + s.length ≤ 100000000) :
    TriE Tryz.prog 70 #[.pointer (some ⟨b, 0, none⟩), strV s] (fun v M => ∃ a c, M = pts b (.cells [.pointer (some ⟨b, 0, none⟩), .slice a (bs ++ s).length c].toArray 130) :: OY a c (bs ++ s) :: L ∧ SomeA a (bs ++ s).length) (pts b (.cells [.pointer (some ⟨b, 0, none⟩), .slice a bs.length c].toArray 130) :: OY a c bs :: L) := by
  refine Tri.of (N := 19) (args := [.pointer (some ⟨b, 0, none⟩), strV s]) Tryz.func70 rfl rfl rfl ?_
  refine go ?_
  refine WO.callE (vs := [.pointer (some ⟨b, 0, none⟩)]) Tryz.func124 rfl rfl rfl rfl (sb_again b _ _) ?_
  rintro v M ⟨rfl, rfl⟩
  refine go ?_
  unfold OY
  refine WO.sv rfl ?_
  refine SV.append rfl rfl rfl (Tk.there Tk.here) Src.str (by simp) (by simp [u8V, isCell]) (by omega) rfl ?_
  intro a' c' ha'
  refine go ?_
  refine ⟨rfl, [_, _], ⟨Res.tmp rfl, Res.tmp rfl, trivial⟩, pts b (.cells [.pointer (some ⟨b, 0, none⟩), .slice a' (bs.length + s.length) c'].toArray 130) :: Own 5 1 (.slice a' (bs.length + s.length) c') (bs.length + s.length) (bs.map u8V ++ s.map u8V) :: L, ent, a', c', ?_, ?_⟩
  · rw [List.length_append, List.map_append]
  · rw [List.length_append]; exact ha'
theorem sb_String (b c : Nat) (a : Option Addr) (bs : BL) (L : List HP) (h0 : bs ≠ []) (ha : SomeA a bs.length) (hn : bs.length ≤ 100000000) :
    TriE Tryz.prog 71 #[.pointer (some ⟨b, 0, none⟩)] (fun v M => v = strV bs ∧ M = L) (pts b (.cells [.pointer (some ⟨b, 0, none⟩), .slice a bs.length c].toArray 130) :: OY a c bs :: L) := by
  have hl0 : bs.length ≠ 0 := fun z => h0 (List.length_eq_zero_iff.1 z)
  obtain ⟨r, rfl⟩ := ha hl0
  refine Tri.of (N := 14) (args := [.pointer (some ⟨b, 0, none⟩)]) Tryz.func71 rfl rfl rfl ?_
  refine W.ownCap (show Tk _ (Own 5 1 (.slice (some ⟨r, 0, none⟩) bs.length c) bs.length (bs.map u8V)) _ from by unfold OY; exact Tk.there Tk.here) fun hc => ?_
  refine go ?_
  refine W.drawB #[0, 1, 3, 7, 15, 0, 32, 96, 224, 480, 1023, 2047] [pts b (.cells [.pointer (some ⟨b, 0, none⟩), .slice (some ⟨r, 0, none⟩) bs.length c].toArray 130)] (OY (some ⟨r, 0, none⟩) c bs :: L) rfl (by kernel_rfl) (by kernel_rfl) (by kernel_rfl) ent ?_
  refine go ?_
  refine DB.v rfl rfl rfl hl hl ?_
  refine SV.sliceData rfl (by omega) ?_
  refine ⟨[], OY (some ⟨r, 0, none⟩) c bs :: L, ent, ?_⟩
  refine go ?_
  refine DB.v rfl rfl rfl hl hl ?_
  unfold OY
  refine SV.unsafeStr (bs := bs) rfl rfl Tryz.underlying188 rfl (Tk.there Tk.here) h0 (by omega) ?_
  refine ⟨[], L, ent, ?_⟩
  refine go ?_
  refine ⟨pts b (.cells [.pointer (some ⟨b, 0, none⟩), .slice (some ⟨r, 0, none⟩) bs.length c].toArray 130) :: L, ent, ?_⟩
  refine go ?_
  exact ⟨rfl, [_], ⟨Res.tmp rfl, trivial⟩, L, ent, rfl, rfl⟩
end Go.SL
/- strings: Join with blanks, walked. -/
namespace Go.SL
open Go.Proofs
set_option linter.unusedVariables false
set_option linter.unusedSimpArgs false
set_option linter.unusedSectionVars false
set_option maxRecDepth 10000
set_option maxHeartbeats 4000000
attribute [local irreducible] W WO SV OW SW Tri Ent Tk Has Src SrcK DA DB DP RdS Own OwnT MapH

def sumL (l : List BL) (i : Nat) : Nat := ((l.take i).map List.length).sum
theorem sumL_succ (l : List BL) (i : Nat) (h : i < l.length) : sumL l (i + 1) = sumL l i + l[i].length := by
  unfold sumL
  rw [List.take_add_one, List.getElem?_eq_getElem h, Option.toList_some, List.map_append, List.sum_append]
  simp
theorem sumL_le (l : List BL) (i : Nat) : sumL l i ≤ sumL l l.length := by
  unfold sumL
  rw [List.take_length]
  conv => rhs; rw [← List.take_append_drop i l]
  rw [List.map_append, List.sum_append]
  omega
theorem jn_len : ∀ (l : List BL), l ≠ [] → (jn l).length + 1 = sumL l l.length + l.length
  | [], h => absurd rfl h
  | [w], _ => by simp [jn, sumL]
  | w :: v :: r, _ => by
    have ih := jn_len (v :: r) (List.cons_ne_nil _ _)
    rw [jn_cons (List.cons_ne_nil _ _)]
    simp only [sumL, List.take_length] at ih ⊢
    simp only [List.map_cons, List.sum_cons, List.length_append, List.length_cons] at ih ⊢
    omega
theorem jn_take (l : List BL) (i : Nat) (h : i + 1 < l.length) : jn (l.take (i + 2)) = (jn (l.take (i + 1)) ++ [32]) ++ l[i + 1] := by
  rw [List.take_add_one, List.getElem?_eq_getElem h, Option.toList_some, jn_snoc _ _ (by
    intro e
    have := congrArg List.length e
    rw [List.length_take, List.length_nil] at this
    omega)]
  simp
theorem jn_takeLe (l : List BL) (i : Nat) (h : i ≤ l.length) (h0 : 0 < i) : (jn (l.take i)).length ≤ (jn l).length := by
  have hl : l ≠ [] := fun e => by subst e; simp at h; omega
  have ht : l.take i ≠ [] := by
    intro e
    have := congrArg List.length e
    rw [List.length_take, List.length_nil] at this
    omega
  have h1 := jn_len l hl
  have h2 := jn_len (l.take i) ht
  have h3 : sumL (l.take i) (l.take i).length = sumL l i := by unfold sumL; rw [List.take_length]
  have h4 := sumL_le l i
  rw [List.length_take, Nat.min_eq_left h] at h2 h3
  omega
theorem st_Join (l : List BL) (a : Option Addr) (c : Nat) (L : List HP) (hl : l ≠ []) (hc : l.length ≤ c) (hb : (jn l).length ≤ 100000) (r : RdS 1 a l.length (l.map strV) L) :
    TriE Tryz.prog 40 #[.slice a l.length c, strV [32]] (fun v M => v = strV (jn l) ∧ M = L) L := by
  have hc1 : ([32] : BL).length = 1 := rfl
  have hpos : 0 < l.length := List.length_pos_iff.2 hl
  have hjl := jn_len l hl
  obtain ⟨ab, ao, rfl⟩ := r.at (by omega)
  have x0 : (l.map strV)[0]? = some (strV l[0]) := by rw [List.getElem?_map, List.getElem?_eq_getElem hpos]; rfl
  refine Tri.of (N := 75) (args := [.slice (some ⟨ab, ao, none⟩) l.length c, strV [32]]) Tryz.func40 rfl rfl rfl ?_
  by_cases h1 : l.length = 1
  · refine go ?_
    refine WO.sv rfl ?_
    refine SV.loadR (v := strV l[0]) 0 rfl r (by omega) x0 ?_
    refine go ?_
    refine ⟨rfl, [_], ⟨Res.tmp rfl, trivial⟩, L, ent, ?_, rfl⟩
    match l, h1 with
    | [w], _ => rfl
  have hq : (2 : Int) ≤ 9223372036854775807 / ((l.length : Int) - 1) := (Int.le_ediv_iff_mul_le (by omega)).2 (by omega)
  have hm : (([32] : BL).length : Int) * ((l.length : Int) - 1) = (l.length : Int) - 1 := by rw [hc1]; omega
  refine go ?_
  refine W.loopS 72055395014672544 rfl (fun i : Nat => [(5, .int .i64 ((l.length - 1 + sumL l i : Nat) : Int)), (41, .int .i64 (i : Int))]) (fun _ => L) (fun i => i ≤ l.length) (fun i => l.length - i) 0
    ⟨congrArg (Value.int .i64) (by rw [show sumL l 0 = 0 by simp [sumL]]; omega), rfl, trivial⟩ (Nat.zero_le _) (Ent.app ent) ?_
  intro i bg hi
  have hsl := sumL_le l i
  by_cases h2 : i < l.length
  · have hss := sumL_succ l i h2
    have hsl2 := sumL_le l (i + 1)
    have xi : (l.map strV)[i]? = some (strV l[i]) := by rw [List.getElem?_map, List.getElem?_eq_getElem h2]; rfl
    refine go ?_
    refine WO.sv rfl ?_
    refine SV.loadR (v := strV l[i]) i rfl r (by omega) xi ?_
    refine go ?_
    refine ⟨i + 1, ⟨congrArg (Value.int .i64) (by omega), rfl, trivial⟩, rfl, by omega, by omega, Ent.app ent⟩
  obtain rfl : i = l.length := by omega
  refine go ?_
  intro b8
  refine go ?_
  refine WO.callE (vs := [.pointer (some ⟨b8, 0, none⟩), .int .i64 (l.length - 1 + sumL l l.length : Nat)]) Tryz.func69 rfl rfl rfl rfl (sb_Grow b8 _ L (by omega) (by omega)) ?_
  rintro v M ⟨rfl, rr, rc, rfl⟩
  refine go ?_
  refine WO.sv rfl ?_
  refine SV.loadR (v := strV l[0]) 0 rfl r.cons.cons (by omega) x0 ?_
  have hl0 : l[0].length ≤ (jn l).length := by
    have := jn_takeLe l 1 (by omega) (by omega)
    rw [List.take_add_one, List.getElem?_eq_getElem hpos] at this
    simpa [jn] using this
  refine WO.callE (vs := [.pointer (some ⟨b8, 0, none⟩), strV l[0]]) Tryz.func70 rfl rfl rfl rfl (sb_Write b8 rc (some ⟨rr, 0, none⟩) [] l[0] L (by simp; omega)) ?_
  rintro v M ⟨a1, c1, rfl, ha1⟩
  rw [List.nil_append] at ha1 ⊢
  refine go ?_
  refine WO.sv rfl ?_
  refine SV.cut (l := 1) (h := l.length) rfl (cutAt.of rfl rfl) rfl (by omega) (by omega) ?_
  intro off' hoff
  obtain rfl : off' = ao + 1 * 1 := hoff (.inl (by omega))
  refine go ?_
  have ht1 : jn (l.take 1) = l[0] := by rw [List.take_add_one, List.getElem?_eq_getElem hpos]; rfl
  refine W.loopS 18852572443331161752576 rfl (fun q : Nat × Option Addr × Nat => [(65, .int .i64 (q.1 : Int))]) (fun q => pts b8 (.cells [.pointer (some ⟨b8, 0, none⟩), .slice q.2.1 (jn (l.take (q.1 + 1))).length q.2.2].toArray 130) :: OY q.2.1 q.2.2 (jn (l.take (q.1 + 1))) :: L)
    (fun q => q.1 + 1 ≤ l.length ∧ SomeA q.2.1 (jn (l.take (q.1 + 1))).length) (fun q => l.length - q.1) (0, a1, c1) ⟨rfl, trivial⟩ ⟨by dsimp only; omega, by dsimp only; rw [ht1]; exact ha1⟩ (by dsimp only; rw [ht1]; exact Ent.app ent) ?_
  rintro ⟨i, a2, c2⟩ bg2 ⟨hi, ha2⟩
  dsimp only at hi ha2 ⊢
  have hlen := jn_takeLe l (i + 1) hi (by omega)
  by_cases h2 : i + 1 < l.length
  · have xi : (l.map strV)[i + 1]? = some (strV l[i + 1]) := by rw [List.getElem?_map, List.getElem?_eq_getElem h2]; rfl
    have hlen2 := jn_takeLe l (i + 2) (by omega) (by omega)
    have ht2 := jn_take l i h2
    have ht3 := congrArg List.length ht2
    rw [List.length_append, List.length_append, hc1] at ht3
    refine go ?_
    refine WO.sv rfl ?_
    refine SV.loadR (v := strV l[i + 1]) (i + 1) rfl r.cons.cons (by omega) xi ?_
    refine go ?_
    refine WO.callE (vs := [.pointer (some ⟨b8, 0, none⟩), strV [32]]) Tryz.func70 rfl rfl rfl rfl (sb_Write b8 c2 a2 (jn (l.take (i + 1))) [32] L (by rw [hc1]; omega)) ?_
    rintro v M ⟨a3, c3, rfl, ha3⟩
    refine go ?_
    refine WO.callE (vs := [.pointer (some ⟨b8, 0, none⟩), strV l[i + 1]]) Tryz.func70 rfl rfl rfl rfl (sb_Write b8 c3 a3 (jn (l.take (i + 1)) ++ [32]) l[i + 1] L (by rw [List.length_append, hc1]; omega)) ?_
    rintro v M ⟨a4, c4, rfl, ha4⟩
    rw [← ht2] at ha4 ⊢
    refine go ?_
    exact ⟨(i + 1, a4, c4), ⟨rfl, trivial⟩, rfl, ⟨by dsimp only; omega, ha4⟩, by dsimp only; omega, Ent.app ent⟩
  have hi1 : i + 1 = l.length := by omega
  rw [hi1, List.take_length] at ha2 ⊢
  refine go ?_
  refine WO.callE (vs := [.pointer (some ⟨b8, 0, none⟩)]) Tryz.func71 rfl rfl rfl rfl (sb_String b8 c2 a2 (jn l) L (fun e => by rw [e] at hjl; simp at hjl; omega) ha2 (by omega)) ?_
  rintro v M ⟨rfl, rfl⟩
  refine go ?_
  exact ⟨rfl, [_], ⟨Res.tmp rfl, trivial⟩, _, ent, rfl, rfl⟩
end Go.SL
/- Layer 7: a device: what its small functions do, each walked once. -/
namespace Go.SL
open Go.Proofs
set_option linter.unusedVariables false
set_option linter.unusedSimpArgs false
set_option maxRecDepth 10000
attribute [local irreducible] W WO SV OW SW Tri Ent Tk Has Src SrcK DA DB RdS Own

abbrev Byt := List UInt8
structure Dv where
  kept : List Byt
  now : List Byt
  waits : List (Nat × Byt)
  arm : Int
  down : Bool
  ops : Int
def flushN (kept : List Byt) (waits : List (Nat × Byt)) : Nat → List Byt
  | 0 => kept
  | i + 1 => (flushN kept waits i).set (waits.getD i (0, [])).1 (waits.getD i (0, [])).2
structure Dv.Ok (d : Dv) : Prop where
  now : d.now.length = d.kept.length
  size : d.kept.length ≤ 4096
  k256 : ∀ s ∈ d.kept, s.length = 256
  n256 : ∀ s ∈ d.now, s.length = 256
  w256 : ∀ w ∈ d.waits, w.1 < d.kept.length ∧ w.2.length = 256
  arm : -1 ≤ d.arm ∧ d.arm ≤ 9223372036854775807
  sync : flushN d.kept d.waits d.waits.length = d.now
def wrV (w : Nat × Byt) : List Value := [.int .i64 w.1, strV w.2]
/-- Whether there are blocks; a call; a block. -/
def Dv.call (d : Dv) (may : Bool) : Dv × Int :=
  if d.kept.length = 0 then (d, 1) else if may = false then (d, 2) else
    ({ d with ops := IntKind.i64.wrap (d.ops + 1), down := d.down || decide (d.arm = 0), arm := max (-1) (d.arm - 1) }, if d.down || decide (d.arm = 0) then 17 else 0)
def Dv.is (d : Dv) (n : Int) : Bool := decide (0 ≤ n) && decide (n < d.kept.length)

abbrev DvX := Option Addr × Nat × Option Addr × Nat × Option Addr × Nat
abbrev dvL (b : Nat) (x : DvX) (d : Dv) : List HP :=
  [pts b (.cells [Value.slice x.1 d.kept.length x.2.1, Value.slice x.2.2.1 d.now.length x.2.2.2.1, Value.slice x.2.2.2.2.1 d.waits.length x.2.2.2.2.2, Value.int .i64 d.arm, Value.bool d.down, Value.int .i64 d.ops].toArray 117),
   Own 9 1 (.slice x.1 d.kept.length x.2.1) d.kept.length (d.kept.map strV), Own 9 1 (.slice x.2.2.1 d.now.length x.2.2.2.1) d.now.length (d.now.map strV), Own 187 2 (.slice x.2.2.2.2.1 d.waits.length x.2.2.2.2.2) d.waits.length (d.waits.flatMap wrV)]
def DevH (b : Nat) (d : Dv) : HP := hex fun x : DvX => conj (hpure (SomeA x.1 d.kept.length ∧ SomeA x.2.2.1 d.now.length ∧ SomeA x.2.2.2.2.1 d.waits.length) :: dvL b x d)
/-- Bytes of one's own. -/
def OS (a : Option Addr) (c : Nat) (s : Byt) : HP := Own 5 1 (.slice a s.length c) s.length (s.map u8V)
theorem OS.rd {a : Option Addr} {c : Nat} {s : Byt} {L R : List HP} (t : Tk L (OS a c s) R) (ha : SomeA a s.length) : RdS 1 a s.length (s.map u8V) L := RdS.ownS t ha (by simp)
theorem Dv.call_ok {d : Dv} (ok : d.Ok) (may : Bool) : (d.call may).1.Ok := by
  unfold Dv.call
  split
  · exact ok
  · split
    · exact ok
    · exact ⟨ok.now, ok.size, ok.k256, ok.n256, ok.w256, by have := ok.arm; dsimp only; omega, ok.sync⟩

theorem dv_none (b n c : Nat) (a : Option Addr) (c1 c2 c3 c4 c5 : Value) (L : List HP) (r : RdS 1 (some ⟨b, 0, none⟩) 6 [.slice a n c, c1, c2, c3, c4, c5] L) :
    TriE Tryz.prog 123 #[.pointer (some ⟨b, 0, none⟩)] (fun v M => v = .bool (decide (n = 0)) ∧ M = L) L := by
  refine Tri.of (N := 13) (args := [.pointer (some ⟨b, 0, none⟩)]) Tryz.func123 rfl rfl rfl ?_
  refine go ?_
  refine WO.sv rfl ?_
  refine SV.loadR 0 rfl r rfl rfl ?_
  refine goD ?_
  exact ⟨rfl, [_], ⟨Res.tmp rfl, trivial⟩, L, ent, by show Value.bool (decide ((n : Int) = 0)) = _; congr 1; exact decide_eq_decide.2 (by omega), rfl⟩
theorem dv_none0 (L : List HP) : TriE Tryz.prog 123 #[.pointer none] (fun v M => v = .bool true ∧ M = L) L := by
  refine Tri.of (N := 13) (args := [.pointer none]) Tryz.func123 rfl rfl rfl ?_
  refine go ?_
  exact ⟨rfl, [_], ⟨Res.tmp rfl, trivial⟩, L, ent, rfl, rfl⟩
theorem dv_Len (b n c : Nat) (a : Option Addr) (c1 c2 c3 c4 c5 : Value) (L : List HP) (r : RdS 1 (some ⟨b, 0, none⟩) 6 [.slice a n c, c1, c2, c3, c4, c5] L) :
    TriE Tryz.prog 72 #[.pointer (some ⟨b, 0, none⟩)] (fun v M => v = .int .i64 n ∧ M = L) L := by
  refine Tri.of (N := 10) (args := [.pointer (some ⟨b, 0, none⟩)]) Tryz.func72 rfl rfl rfl ?_
  refine go ?_
  refine WO.callE (vs := [.pointer (some ⟨b, 0, none⟩)]) Tryz.func123 rfl rfl rfl rfl (dv_none b n c a c1 c2 c3 c4 c5 _ r) ?_
  rintro v M ⟨rfl, rfl⟩
  refine go ?_
  refine W.if rfl (fun h => ?_) (fun h => ?_)
  · subst h
    refine go ?_
    exact ⟨rfl, [_], ⟨Res.tmp rfl, trivial⟩, _, ent, rfl, rfl⟩
  · refine go ?_
    refine WO.sv rfl ?_
    refine SV.loadR 0 rfl r rfl rfl ?_
    refine go ?_
    exact ⟨rfl, [_], ⟨Res.tmp rfl, trivial⟩, _, ent, rfl, rfl⟩
theorem dv_Len0 (L : List HP) : TriE Tryz.prog 72 #[.pointer none] (fun v M => v = .int .i64 0 ∧ M = L) L := by
  refine Tri.of (N := 10) (args := [.pointer none]) Tryz.func72 rfl rfl rfl ?_
  refine go ?_
  refine WO.callE (vs := [.pointer none]) Tryz.func123 rfl rfl rfl rfl (dv_none0 _) ?_
  rintro v M ⟨rfl, rfl⟩
  refine go ?_
  exact ⟨rfl, [_], ⟨Res.tmp rfl, trivial⟩, _, ent, rfl, rfl⟩
theorem dv_is (b n c : Nat) (k : Int) (a : Option Addr) (c1 c2 c3 c4 c5 : Value) (L : List HP) (r : RdS 1 (some ⟨b, 0, none⟩) 6 [.slice a n c, c1, c2, c3, c4, c5] L) :
    TriE Tryz.prog 138 #[.pointer (some ⟨b, 0, none⟩), .int .i64 k] (fun v M => v = .bool (decide (0 ≤ k) && decide (k < n)) ∧ M = L) L := by
  refine Tri.of (N := 13) (args := [.pointer (some ⟨b, 0, none⟩), .int .i64 k]) Tryz.func138 rfl rfl rfl ?_
  refine go ?_
  refine WO.sv rfl ?_
  refine SV.geqC rfl rfl ?_ ?_
  · intro h
    refine go ?_
    refine WO.callE (vs := [.pointer (some ⟨b, 0, none⟩)]) Tryz.func72 rfl rfl rfl rfl (dv_Len b n c a c1 c2 c3 c4 c5 _ r) ?_
    rintro v M ⟨rfl, rfl⟩
    refine goD ?_
    exact ⟨rfl, [_], ⟨Res.tmp rfl, trivial⟩, _, ent, by rw [decide_eq_true h, Bool.true_and]; rfl, rfl⟩
  · intro h
    refine go ?_
    exact ⟨rfl, [_], ⟨Res.tmp rfl, trivial⟩, _, ent, by rw [decide_eq_false (show ¬ (0 : Int) ≤ k by omega), Bool.false_and]; rfl, rfl⟩
theorem dv_is0 (k : Int) (L : List HP) : TriE Tryz.prog 138 #[.pointer none, .int .i64 k] (fun v M => v = .bool false ∧ M = L) L := by
  refine Tri.of (N := 13) (args := [.pointer none, .int .i64 k]) Tryz.func138 rfl rfl rfl ?_
  refine go ?_
  refine WO.sv rfl ?_
  refine SV.geqC rfl rfl ?_ ?_
  · intro h
    refine go ?_
    refine WO.callE (vs := [.pointer none]) Tryz.func72 rfl rfl rfl rfl (dv_Len0 _) ?_
    rintro v M ⟨rfl, rfl⟩
    refine go ?_
    exact ⟨rfl, [_], ⟨Res.tmp rfl, trivial⟩, _, ent, rfl, rfl⟩
  · intro h
    refine go ?_
    exact ⟨rfl, [_], ⟨Res.tmp rfl, trivial⟩, _, ent, rfl, rfl⟩

/-! sync/atomic -/
theorem at_Load {b off : Nat} {l : List Value} {T : TypeId} {fr : Nat × Nat} {x : Int} {L : List HP} [r : Rd L b (.cells l.toArray T fr)] (hc : lget l off = some (.int .i64 x)) :
    TriE Tryz.prog 170 #[.pointer (some ⟨b, off, none⟩)] (fun v M => v = .int .i64 x ∧ M = L) L := by
  refine Tri.of (N := 7) (args := [.pointer (some ⟨b, off, none⟩)]) Tryz.func170 rfl rfl rfl ?_
  refine go ?_
  refine WO.sv rfl ?_
  refine SV.atomLoad (b := b) (off := off) Tryz.func194 rfl rfl (by kernel_rfl) (by kernel_rfl) rfl hc ?_
  refine go ?_
  exact ⟨rfl, [_], ⟨Res.tmp rfl, trivial⟩, L, ent, rfl, rfl⟩
theorem at_Add (b off : Nat) (l l' : List Value) (T : TypeId) (x y z : Int) (R : List HP) (hc : lget l off = some (.int .i64 x)) (hw : IntKind.i64.wrap (x + y) = z) (hl : NL (lput l off [.int .i64 z]) l') :
    TriE Tryz.prog 173 #[.pointer (some ⟨b, off, none⟩), .int .i64 y] (fun v M => v = .int .i64 z ∧ M = pts b (.cells l'.toArray T) :: R) (pts b (.cells l.toArray T) :: R) := by
  refine Tri.of (N := 10) (args := [.pointer (some ⟨b, off, none⟩), .int .i64 y]) Tryz.func173 rfl rfl rfl ?_
  refine go ?_
  refine WO.sv rfl ?_
  refine SV.atomAdd (b := b) (off := off) Tryz.func196 rfl rfl (by kernel_rfl) (by kernel_rfl) rfl hc (Nat.le_refl _) hw hl ?_
  refine go ?_
  exact ⟨rfl, [_], ⟨Res.tmp rfl, trivial⟩, _, ent, rfl, rfl⟩
theorem at_Store (b off : Nat) (l l' : List Value) (T : TypeId) (y : Int) (R : List HP) (ho : off < l.length) (hl : NL (lput l off [.int .i64 y]) l') :
    TriE Tryz.prog 169 #[.pointer (some ⟨b, off, none⟩), .int .i64 y] (fun v M => M = pts b (.cells l'.toArray T) :: R) (pts b (.cells l.toArray T) :: R) := by
  refine Tri.of (N := 9) (args := [.pointer (some ⟨b, off, none⟩), .int .i64 y]) Tryz.func169 rfl rfl rfl ?_
  refine go ?_
  refine WO.sv rfl ?_
  refine SV.atomStore (b := b) (off := off) Tryz.func193 rfl rfl (by kernel_rfl) (by kernel_rfl) rfl ho (Nat.le_refl _) hl ?_
  refine go ?_
  exact ⟨rfl, [], trivial, _, ent, rfl⟩

/-! a call begins -/
theorem dv_call (b : Nat) (x : DvX) (d : Dv) (may : Bool) (R : List HP) (ha : -1 ≤ d.arm ∧ d.arm ≤ 9223372036854775807) :
    TriE Tryz.prog 137 #[.pointer (some ⟨b, 0, none⟩), .bool may] (fun v M => v = .int .i64 (d.call may).2 ∧ M = dvL b x (d.call may).1 ++ R) (dvL b x d ++ R) := by
  obtain ⟨ka, kc, na, nc, wa, wc⟩ := x
  obtain ⟨kept, now, waits, arm, down, ops⟩ := d
  dsimp only at ha
  simp only [dvL, List.cons_append, List.nil_append]
  refine Tri.of (N := 42) (args := [.pointer (some ⟨b, 0, none⟩), .bool may]) Tryz.func137 rfl rfl rfl ?_
  refine go ?_
  refine WO.callE (vs := [.pointer (some ⟨b, 0, none⟩)]) Tryz.func123 rfl rfl rfl rfl (dv_none b _ _ _ _ _ _ _ _ _ (RdS.all rfl)) ?_
  rintro v M ⟨rfl, rfl⟩
  refine go ?_
  refine W.if rfl (fun h => ?_) (fun h => ?_)
  · refine go ?_
    refine ⟨rfl, [_], ⟨Res.tmp rfl, trivial⟩, _, Ent.refl _, ?_, ?_⟩
    · simp only [Dv.call]; rw [if_pos h]; rfl
    · simp only [Dv.call]; rw [if_pos h]
  cases may with
  | false =>
    refine go ?_
    refine ⟨rfl, [_], ⟨Res.tmp rfl, trivial⟩, _, Ent.refl _, ?_, ?_⟩
    · simp only [Dv.call]; rw [if_neg h, if_pos trivial]; rfl
    · simp only [Dv.call]; rw [if_neg h, if_pos trivial]
  | true =>
    refine go ?_
    refine WO.callE (vs := [.pointer (some ⟨b, 0 + 5, none⟩), .int .i64 1]) Tryz.func173 rfl rfl rfl rfl (at_Add b (0 + 5) _ [.slice ka kept.length kc, .slice na now.length nc, .slice wa waits.length wc, .int .i64 arm, .bool down, .int .i64 (IntKind.i64.wrap (ops + 1))] _ ops 1 _ _ rfl rfl nl) ?_
    rintro v M ⟨rfl, rfl⟩
    cases down with
    | true =>
      refine go ?_
      refine ⟨rfl, [_], ⟨Res.tmp rfl, trivial⟩, _, Ent.refl _, ?_, ?_⟩
      · simp only [Dv.call]; rw [if_neg h, if_neg (by decide)]; rfl
      · simp only [Dv.call]; rw [if_neg h, if_neg (by decide)]; rfl
    | false =>
      by_cases h0 : arm = 0
      · refine go ?_
        refine ⟨rfl, [_], ⟨Res.tmp rfl, trivial⟩, _, Ent.refl _, ?_, ?_⟩
        · simp only [Dv.call]; rw [if_neg h, if_neg (by decide), decide_eq_true h0]; rfl
        · simp only [Dv.call]; rw [if_neg h, if_neg (by decide), decide_eq_true h0]; rfl
      · refine go ?_
        refine ⟨rfl, [_], ⟨Res.tmp rfl, trivial⟩, _, Ent.refl _, ?_, ?_⟩
        · simp only [Dv.call]; rw [if_neg h, if_neg (by decide), decide_eq_false h0]; rfl
        · simp only [Dv.call]; rw [if_neg h, if_neg (by decide), decide_eq_false h0]; rfl
theorem dv_call0 (may : Bool) (L : List HP) : TriE Tryz.prog 137 #[.pointer none, .bool may] (fun v M => v = .int .i64 1 ∧ M = L) L := by
  refine Tri.of (N := 42) (args := [.pointer none, .bool may]) Tryz.func137 rfl rfl rfl ?_
  refine go ?_
  refine WO.callE (vs := [.pointer none]) Tryz.func123 rfl rfl rfl rfl (dv_none0 _) ?_
  rintro v M ⟨rfl, rfl⟩
  refine go ?_
  exact ⟨rfl, [_], ⟨Res.tmp rfl, trivial⟩, _, ent, rfl, rfl⟩
end Go.SL

/- Layer 8: marks: what the small functions do, each walked once. -/
namespace Go.SL
open Go.Proofs
set_option linter.unusedVariables false
set_option linter.unusedSimpArgs false
set_option maxRecDepth 10000
set_option maxHeartbeats 4000000
attribute [local irreducible] W WO SV OW SW Tri Ent Tk Has Src SrcK DA DB RdS Own

/-- The i-th byte of a number, the greatest first. -/
def byteOf (v i : Nat) : UInt8 := UInt8.ofNat (v / 2 ^ (8 * (7 - i)))
def beN (v i : Nat) : Byt := (List.range i).map (byteOf v)
theorem beN_succ (v i : Nat) : beN v (i + 1) = beN v i ++ [byteOf v i] := by unfold beN; rw [List.range_succ, List.map_append]; rfl
@[simp] theorem beN_len (v i : Nat) : (beN v i).length = i := by simp [beN]
theorem u64_shr (v i : Nat) (z : Int) (h : z = 8 * (7 - (i : Int))) (hi : i < 8) : (v : Int).fdiv (2 ^ (min z.toNat (IntKind.bits .u64))) = ((v / 2 ^ (8 * (7 - i)) : Nat) : Int) := by
  have e : min z.toNat (IntKind.bits .u64) = 8 * (7 - i) := by subst h; show min _ 64 = _; omega
  rw [e, Int.fdiv_eq_ediv_of_nonneg _ (by exact_mod_cast Nat.zero_le _)]
  exact_mod_cast rfl
theorem u8_of (n : Nat) : IntKind.wrap .u8 (n : Int) = ((UInt8.ofNat n).toNat : Int) := by
  show ((n : Int) % 256) = _
  rw [UInt8.toNat_ofNat']
  exact_mod_cast rfl

theorem mk_word (a : Option Addr) (c : Nat) (s : Byt) (v : Nat) (R : List HP) (hs : s.length ≤ 1000) (ha : SomeA a s.length) (hv : v < 18446744073709551616) :
    TriE Tryz.prog 220 #[.slice a s.length c, .int .u64 v] (fun r M => ∃ a' c', r = .slice a' (s ++ beN v 8).length c' ∧ SomeA a' (s ++ beN v 8).length ∧ M = OS a' c' (s ++ beN v 8) :: R) (OS a c s :: R) := by
  refine Tri.of (N := 19) (args := [.slice a s.length c, .int .u64 v]) Tryz.func220 rfl rfl rfl ?_
  unfold OS
  refine go ?_
  refine W.loopS 262113 rfl (fun q : Nat × Option Addr × Nat => [(0, .slice q.2.1 (s.length + q.1) q.2.2), (5, .int .i64 (7 - (q.1 : Int)))])
    (fun q => Own 5 1 (.slice q.2.1 (s.length + q.1) q.2.2) (s.length + q.1) ((s ++ beN v q.1).map u8V) :: R)
    (fun q => q.1 ≤ 8 ∧ SomeA q.2.1 (s.length + q.1)) (fun q => 8 - q.1) (0, a, c) ⟨rfl, rfl, trivial⟩ ⟨Nat.zero_le _, ha⟩ (Ent.app ?_) ?_
  · dsimp only
    rw [show s ++ beN v 0 = s by simp [beN]]
    exact ent
  rintro ⟨i, a, c⟩ bg ⟨hi, hsa⟩
  dsimp only at hi hsa ⊢
  by_cases h8 : i < 8
  · refine go ?_
    refine WO.sv rfl ?_
    refine SV.shr rfl rfl (by omega) (u64_shr v i _ (by omega) h8) ?_
    refine WO.sv rfl ?_
    refine SV.convInt rfl (u8_of _) ?_
    refine WO.sv rfl ?_
    refine SV.lit rfl rfl rfl parts rfl nl ?_
    intro bl
    refine WO.sv rfl ?_
    refine SV.append rfl rfl rfl tk (RdS.src (RdS.all (sz := 1) (n := 1) rfl)) rfl rfl (by omega) rfl ?_
    intro a' c' ha'
    refine go ?_
    refine ⟨(i + 1, a', c'), ⟨rfl, by show Value.int _ _ = _; congr 1; dsimp only; omega, trivial⟩, rfl, ⟨by dsimp only; omega, fun _ => ha' (by omega)⟩, by dsimp only; omega, Ent.app ?_⟩
    dsimp only
    rw [beN_succ, ← List.append_assoc, List.map_append (l₂ := [byteOf v i])]
    exact ent
  · obtain rfl : i = 8 := by omega
    refine go ?_
    refine ⟨rfl, [_], ⟨Res.tmp rfl, trivial⟩, Own 5 1 (.slice a (s ++ beN v 8).length c) (s ++ beN v 8).length ((s ++ beN v 8).map u8V) :: R, ?_, a, c, ?_, ?_, rfl⟩
    · rw [List.length_append, beN_len]
      exact ent
    · rw [List.length_append, beN_len]; rfl
    · rw [List.length_append, beN_len]; exact hsa
end Go.SL

/- Layer 8: marks: what the small functions do, each walked once. -/
namespace Go.SL
open Go.Proofs
set_option linter.unusedVariables false
set_option linter.unusedSimpArgs false
set_option maxRecDepth 10000
set_option maxHeartbeats 4000000
attribute [local irreducible] W WO SV OW SW Tri Ent Tk Has Src SrcK DA DB RdS Own

abbrev mkL (k : UInt8) (e s : Nat) : List Value := [u8V k, .int .u64 e, .int .u64 s]
def mkB (k : UInt8) (e s : Nat) : Byt := [k] ++ beN e 8 ++ beN s 8
@[simp] theorem mkB_len (k : UInt8) (e s : Nat) : (mkB k e s).length = 17 := by simp [mkB]
/-- Whether a kind may be. -/
def mkR (k : UInt8) : Bool := !decide (k.toNat = 0) && !decide (k.toNat = 3)

theorem mk_right (k : UInt8) (e s : Nat) (L : List HP) : TriE Tryz.prog 187 #[.agg (mkL k e s).toArray] (fun v M => v = .bool (mkR k) ∧ M = L) L := by
  have hlt := k.toNat_lt
  unfold mkR
  refine Tri.of (N := 11) (args := [.agg (mkL k e s).toArray]) Tryz.func187 rfl rfl rfl ?_
  dsimp only [mkL, u8V]
  refine go ?_
  intro b1
  by_cases h0 : k.toNat = 0
  · refine go ?_
    exact ⟨rfl, [_], ⟨Res.tmp rfl, trivial⟩, L, ent, by rw [decide_eq_true h0]; rfl, rfl⟩
  · by_cases h3 : k.toNat = 3
    · refine go ?_
      exact ⟨rfl, [_], ⟨Res.tmp rfl, trivial⟩, L, ent, by rw [decide_eq_false h0, decide_eq_true h3]; rfl, rfl⟩
    · refine go ?_
      exact ⟨rfl, [_], ⟨Res.tmp rfl, trivial⟩, L, ent, by rw [decide_eq_false h0, decide_eq_false h3]; rfl, rfl⟩

theorem mk_lay (k : UInt8) (e s : Nat) (R : List HP) (h1 : e < 18446744073709551616) (h2 : s < 18446744073709551616) :
    TriE Tryz.prog 210 #[.agg (mkL k e s).toArray] (fun r M => ∃ a c, r = .slice a (mkB k e s).length c ∧ SomeA a (mkB k e s).length ∧ M = OS a c (mkB k e s) :: R) R := by
  refine Tri.of (N := 12) (args := [.agg (mkL k e s).toArray]) Tryz.func210 rfl rfl rfl ?_
  refine go ?_
  intro b1
  refine go ?_
  refine W.drawG (fun _ => false) #[0, 1, 3, 0, 8, 31, 0, 64, 255, 511] [pts b1 (.cells [u8V k, .int .u64 e, .int .u64 s].toArray 223)] R rfl (by kernel_rfl) (by kernel_rfl) (by kernel_rfl) ent ?_
  refine go ?_
  refine DB.litH rfl rfl rfl parts rfl nl rfl rfl ?_
  intro b2
  refine go ?_
  refine DB.callE (vs := [.slice (some ⟨b2, 0, none⟩) 1 1, .int .u64 e]) Tryz.func220 rfl rfl rfl rfl hl hl (TriE.ent (Ent.trans (B := pts b2 (.cells [u8V k].toArray 5) :: pts b1 (.cells [u8V k, .int .u64 e, .int .u64 s].toArray 223) :: R) ent (ent_own (sz := 1) (n := 1) rfl)) (mk_word (some ⟨b2, 0, none⟩) 1 [k] e (pts b1 (.cells [u8V k, .int .u64 e, .int .u64 s].toArray 223) :: R) (by simp) (fun _ => ⟨b2, rfl⟩) h1)) ?_
  rintro v M ⟨a3, c3, rfl, s3, rfl⟩
  refine ⟨[], OS a3 c3 ([k] ++ beN e 8) :: R, ent, ?_⟩
  refine go ?_
  refine DB.callE (vs := [.slice a3 ([k] ++ beN e 8).length c3, .int .u64 s]) Tryz.func220 rfl rfl rfl rfl hl hl (TriE.ent ent (mk_word a3 c3 ([k] ++ beN e 8) s (pts b1 (.cells [u8V k, .int .u64 e, .int .u64 s].toArray 223) :: R) (by simp) s3 h2)) ?_
  rintro v M ⟨a4, c4, rfl, s4, rfl⟩
  refine ⟨[], OS a4 c4 (mkB k e s) :: R, ent, ?_⟩
  refine go ?_
  refine ⟨OS a4 c4 (mkB k e s) :: R, ent, ?_⟩
  refine go ?_
  exact ⟨rfl, [_], ⟨Res.tmp rfl, trivial⟩, _, ent, a4, c4, rfl, s4, rfl⟩

theorem app_succ (p : Byt) (v i : Nat) : p ++ beN v (i + 1) = (p ++ beN v i) ++ [byteOf v i] := by rw [beN_succ, ← List.append_assoc]
end Go.SL

/- Layer 8: marks: trimming, cloning, reading. -/
namespace Go.SL
open Go.Proofs
set_option linter.unusedVariables false
set_option linter.unusedSimpArgs false
set_option maxRecDepth 10000
set_option maxHeartbeats 4000000
attribute [local irreducible] W WO SV OW SW Tri Ent Tk Has Src SrcK DA DB RdS Own

theorem sl_CloneB (a : Option Addr) (c : Nat) (s : Byt) (L : List HP) (hn : s.length ≤ 1000000) (r : RdS 1 a s.length (s.map u8V) L) :
    TriE Tryz.prog 80 #[.slice a s.length c] (fun v M => ∃ a' c', v = .slice a' s.length c' ∧ SomeA a' s.length ∧ M = OS a' c' s :: L) L := by
  unfold OS
  generalize hsl : s.length = n at *
  refine Tri.of (N := 8) (args := [.slice a n c]) Tryz.func80 rfl rfl rfl ?_
  cases a with
  | none =>
    have h0 : n = 0 := Classical.byContradiction fun h0 => by obtain ⟨b, off, e⟩ := r.at h0; cases e
    subst h0
    have hx : s = [] := List.eq_nil_of_length_eq_zero hsl
    subst hx
    refine go ?_
    exact ⟨rfl, [_], ⟨Res.tmp rfl, trivial⟩, _, Ent.ownNil (Ent.refl _), none, 0, rfl, fun h => absurd rfl h, rfl⟩
  | some a =>
    refine go ?_
    refine WO.sv rfl ?_
    refine SV.lit0 ?_
    intro b1
    refine go ?_
    refine WO.ent (ent_own (sz := 1) (n := 0) rfl) ?_
    refine WO.sv rfl ?_
    refine SV.append rfl rfl rfl tk (RdS.src r) (by rw [r.len]) (by simp [u8V, isCell]) (by omega) rfl ?_
    intro a' c' ha'
    rw [Nat.zero_add, List.nil_append] at *
    refine go ?_
    exact ⟨rfl, [_], ⟨Res.tmp rfl, trivial⟩, _, ent, a', c', rfl, ha', rfl⟩

/-- How many bytes are left of some bytes behind those that are c at the end. -/
def trimR (c : UInt8) : Byt → Nat → Nat
  | s, 0 => 0
  | s, n + 1 => if s.getD n 0 = c then trimR c s n else n + 1
theorem trimR_le (c : UInt8) (s : Byt) : ∀ n, trimR c s n ≤ n
  | 0 => Nat.le_refl _
  | n + 1 => by
    have := trimR_le c s n
    rw [trimR]; split <;> omega
theorem trimR_zero {c : UInt8} {s : Byt} : ∀ {n}, n ≤ s.length → (trimR c s n = 0 ↔ ∀ x ∈ s.take n, x = c)
  | 0, _ => by simp [trimR]
  | n + 1, h => by
    have hg : s.getD n 0 = s[n] := by simp [show n < s.length by omega]
    have ih := trimR_zero (c := c) (s := s) (n := n) (by omega)
    rw [trimR, hg, List.take_succ_eq_append_getElem (by omega)]
    by_cases e : s[n] = c
    · rw [if_pos e, ih]
      simp only [List.mem_append, List.mem_singleton, e]
      exact ⟨fun h x hx => hx.elim (h x) id, fun h x hx => h x (.inl hx)⟩
    · rw [if_neg e]
      exact ⟨fun h => absurd h (Nat.succ_ne_zero _), fun h => absurd (h s[n] (List.mem_append.2 (.inr (List.mem_singleton.2 rfl)))) e⟩
theorem by_trimR (b o cp n : Nat) (c : UInt8) (s : Byt) (L : List HP) (hn : n = s.length) (hb : n ≤ 1000000) (hcp : n ≤ cp) (r : RdS 1 (some ⟨b, o, none⟩) n (s.map u8V) L) :
    TriE Tryz.prog 222 #[.slice (some ⟨b, o, none⟩) n cp, u8V c] (fun v M => v = .slice (some ⟨b, o, none⟩) (trimR c s n) cp ∧ M = L) L := by
  refine Tri.of (N := 24) (args := [.slice (some ⟨b, o, none⟩) n cp, u8V c]) Tryz.func222 rfl rfl rfl ?_
  have hlt := c.toNat_lt
  refine go ?_
  refine W.loopS 8388577 rfl (fun i : Nat => [(0, .slice (some ⟨b, o, none⟩) i cp)]) (fun _ => L) (fun i => i ≤ n ∧ trimR c s i = trimR c s n) (fun i => i) n ⟨rfl, trivial⟩ ⟨Nat.le_refl _, rfl⟩ (Ent.app (Ent.refl _)) ?_
  rintro i bg ⟨hi, ht⟩
  cases i with
  | zero =>
    rw [← ht]
    refine go ?_
    exact ⟨rfl, [_], ⟨Res.tmp rfl, trivial⟩, _, ent, rfl, rfl⟩
  | succ i =>
    have hg : (s.map u8V)[i]? = some (u8V (s.getD i 0)) := by simp [show i < s.length by omega]
    have hlt2 := (s.getD i 0).toNat_lt
    by_cases e : s.getD i 0 = c
    · rw [trimR, if_pos e] at ht
      refine go ?_
      refine WO.sv rfl ?_
      refine SV.loadR i rfl rds (by omega) hg ?_
      rw [e]
      refine go ?_
      refine WO.sv rfl ?_
      refine SV.cut (l := 0) (h := i) rfl rfl (cutAt.of rfl (by omega)) (Nat.zero_le _) (by omega) ?_
      intro off' ho
      rw [ho (.inr rfl)]
      refine go ?_
      exact ⟨i, ⟨rfl, trivial⟩, rfl, ⟨by omega, ht⟩, Nat.lt_succ_self _, Ent.app (Ent.refl _)⟩
    · rw [trimR, if_neg e] at ht
      have e' : (s.getD i 0).toNat ≠ c.toNat := fun h => e (UInt8.toNat_inj.1 h)
      rw [← ht]
      refine go ?_
      refine WO.sv rfl ?_
      refine SV.loadR i rfl rds (by omega) hg ?_
      dsimp only [u8V]
      refine go ?_
      exact ⟨rfl, [_], ⟨Res.tmp rfl, trivial⟩, _, ent, rfl, rfl⟩
end Go.SL

/- Layer 8: marks: whether all bytes are 0. -/
namespace Go.SL
open Go.Proofs
set_option linter.unusedVariables false
set_option linter.unusedSimpArgs false
set_option maxRecDepth 10000
set_option maxHeartbeats 4000000
attribute [local irreducible] W WO SV OW SW Tri Ent Tk Has Src SrcK DA DB RdS Own

/-- From the left, of bytes the last of which stays. -/
theorem by_trimL (b o cp n : Nat) (c : UInt8) (s : Byt) (L : List HP) (hn : n ≤ s.length) (hb : s.length ≤ 1000000) (hcp : n ≤ cp) (r : RdS 1 (some ⟨b, o, none⟩) s.length (s.map u8V) L) (hl2 : n ≠ 0 → s.getD (n - 1) 0 ≠ c) :
    TriE Tryz.prog 221 #[.slice (some ⟨b, o, none⟩) n cp, u8V c] (fun v M => (∃ a' m c', v = .slice a' m c' ∧ (m = 0 ↔ n = 0)) ∧ M = L) L := by
  refine Tri.of (N := 21) (args := [.slice (some ⟨b, o, none⟩) n cp, u8V c]) Tryz.func221 rfl rfl rfl ?_
  have hlt := c.toNat_lt
  by_cases h0 : n = 0
  · subst h0
    refine go ?_
    refine W.loopS 131041 rfl (fun i : Nat => [(0, .slice (some ⟨b, o, none⟩) 0 cp)]) (fun _ => L) (fun i => True) (fun i => 0) 0 ⟨rfl, trivial⟩ trivial (Ent.app (Ent.refl _)) ?_
    intro i bg _
    refine go ?_
    exact ⟨rfl, [_], ⟨Res.tmp rfl, trivial⟩, _, ent, ⟨_, _, _, rfl, Iff.rfl⟩, rfl⟩
  refine go ?_
  refine W.loopS 131041 rfl (fun i : Nat => [(0, .slice (some ⟨b, o + i, none⟩) (n - i) (cp - i))]) (fun _ => L) (fun i => i < n) (fun i => n - i) 0 ⟨rfl, trivial⟩ (by omega) (Ent.app (Ent.refl _)) ?_
  intro i bg hi
  have hg : (s.map u8V)[i]? = some (u8V (s.getD i 0)) := by simp [show i < s.length by omega]
  have hlt2 := (s.getD i 0).toNat_lt
  by_cases e : s.getD i 0 = c
  · have hi2 : i + 1 < n := by
      rcases Nat.lt_or_ge (i + 1) n with h | h
      · exact h
      · obtain rfl : i = n - 1 := by omega
        exact absurd e (hl2 h0)
    refine go ?_
    refine WO.sv rfl ?_
    refine SV.loadR i rfl rds (by omega) hg ?_
    rw [e]
    refine go ?_
    refine WO.sv rfl ?_
    refine SV.cut (l := 1) (h := n - i) rfl (cutAt.of rfl rfl) rfl (by omega) (by omega) ?_
    intro off' ho
    rw [ho (.inl (by omega))]
    refine go ?_
    exact ⟨i + 1, ⟨by show Value.slice _ _ _ = _; congr 1, trivial⟩, rfl, hi2, by omega, Ent.app (Ent.refl _)⟩
  · have e' : (s.getD i 0).toNat ≠ c.toNat := fun h => e (UInt8.toNat_inj.1 h)
    refine go ?_
    refine WO.sv rfl ?_
    refine SV.loadR i rfl rds (by omega) hg ?_
    dsimp only [u8V]
    refine go ?_
    exact ⟨rfl, [_], ⟨Res.tmp rfl, trivial⟩, _, ent, ⟨_, _, _, rfl, by omega⟩, rfl⟩
theorem trimR_last {c : UInt8} {s : Byt} : ∀ {n}, trimR c s n ≠ 0 → s.getD (trimR c s n - 1) 0 ≠ c
  | 0, h => absurd rfl h
  | n + 1, h => by
    rw [trimR] at h ⊢
    by_cases e : s.getD n 0 = c
    · rw [if_pos e] at h ⊢; exact trimR_last h
    · rw [if_neg e]; exact e
theorem mk_zero (b o cp : Nat) (s : Byt) (L : List HP) (hb : s.length ≤ 1000000) (hcp : s.length ≤ cp) (r : RdS 1 (some ⟨b, o, none⟩) s.length (s.map u8V) L) :
    TriE Tryz.prog 188 #[.slice (some ⟨b, o, none⟩) s.length cp] (fun v M => v = .bool (decide (∀ x ∈ s, x = 0)) ∧ M = L) L := by
  have htrim : TriE Tryz.prog 211 #[.slice (some ⟨b, o, none⟩) s.length cp, .string ⟨([0] : List UInt8).toArray⟩] (fun v M => (∃ a' m c', v = .slice a' m c' ∧ (m = 0 ↔ ∀ x ∈ s, x = 0)) ∧ M = L) L := by
    have hz := trimR_zero (c := 0) (s := s) (n := s.length) (Nat.le_refl _)
    rw [List.take_length] at hz
    have hle := trimR_le 0 s s.length
    refine Tri.of (N := 42) (args := [.slice (some ⟨b, o, none⟩) s.length cp, .string ⟨([0] : List UInt8).toArray⟩]) Tryz.func211 rfl rfl rfl ?_
    by_cases h0 : s.length = 0
    · refine go ?_
      refine ⟨rfl, [_], ⟨Res.tmp rfl, trivial⟩, L, ent, ⟨_, _, _, rfl, ?_⟩, rfl⟩
      have : s = [] := List.eq_nil_of_length_eq_zero h0
      subst this
      simp
    refine go ?_
    refine WO.sv rfl ?_
    refine SV.eqlSF rfl rfl (by decide) ?_
    refine go ?_
    refine WO.sv rfl ?_
    refine SV.indexS (s := [0]) (c := 0) rfl rfl (by decide) rfl ?_
    refine go ?_
    refine W.drawB #[0, 0, 2, 7, 0, 16, 63, 127] [] L rfl (by kernel_rfl) (by kernel_rfl) (by kernel_rfl) (Ent.refl _) ?_
    refine go ?_
    refine DB.q (v := u8V 0) rfl rfl hl (SV.indexS (s := [0]) (c := 0) rfl rfl (by decide) rfl eqq) ?_
    refine go ?_
    refine DB.callE (vs := [.slice (some ⟨b, o, none⟩) s.length cp, u8V 0]) Tryz.func222 rfl rfl rfl rfl hl hl (by_trimR b o cp s.length 0 s L rfl hb hcp r) ?_
    rintro v M ⟨rfl, rfl⟩
    refine ⟨[], _, Ent.refl _, ?_⟩
    refine go ?_
    refine DB.q (v := u8V 0) rfl rfl hl (SV.indexS (s := [0]) (c := 0) rfl rfl (by decide) rfl eqq) ?_
    refine go ?_
    refine DB.callE (vs := [.slice (some ⟨b, o, none⟩) (trimR 0 s s.length) cp, u8V 0]) Tryz.func221 rfl rfl rfl rfl hl hl (by_trimL b o cp (trimR 0 s s.length) 0 s _ hle hb (by omega) r trimR_last) ?_
    rintro v M ⟨⟨a', m, c', rfl, hm⟩, rfl⟩
    refine ⟨[], _, Ent.refl _, ?_⟩
    refine go ?_
    refine ⟨_, Ent.refl _, ?_⟩
    refine go ?_
    exact ⟨rfl, [_], ⟨Res.tmp rfl, trivial⟩, _, ent, ⟨_, _, _, rfl, hm.trans hz⟩, rfl⟩
  refine Tri.of (N := 7) (args := [.slice (some ⟨b, o, none⟩) s.length cp]) Tryz.func188 rfl rfl rfl ?_
  refine go ?_
  refine WO.callE (vs := [.slice (some ⟨b, o, none⟩) s.length cp, .string ⟨([0] : List UInt8).toArray⟩]) Tryz.func211 rfl rfl rfl rfl htrim ?_
  rintro v M ⟨⟨a', m, c', rfl, hm⟩, rfl⟩
  by_cases e : m = 0
  · rw [decide_eq_true (hm.1 e)]
    refine go ?_
    exact ⟨rfl, [_], ⟨Res.tmp rfl, trivial⟩, _, ent, rfl, rfl⟩
  · rw [decide_eq_false (fun h => e (hm.2 h))]
    refine go ?_
    exact ⟨rfl, [_], ⟨Res.tmp rfl, trivial⟩, _, ent, rfl, rfl⟩
end Go.SL

/- Layer 8: marks: reading one. -/
namespace Go.SL
open Go.Proofs
set_option linter.unusedVariables false
set_option linter.unusedSimpArgs false
set_option maxRecDepth 10000
set_option maxHeartbeats 4000000
attribute [local irreducible] W WO SV OW SW Tri Ent Tk Has Src SrcK DA DB RdS Own

/-- The number of k bytes from the i-th on. -/
def nbe (s : Byt) (i : Nat) : Nat → Nat
  | 0 => 0
  | k + 1 => nbe s i k * 256 + (s.getD (i + k) 0).toNat
theorem nbe_lt (s : Byt) (i : Nat) : ∀ k, nbe s i k < 256 ^ k
  | 0 => by simp [nbe]
  | k + 1 => by
    have h1 := nbe_lt s i k
    have h2 := (s.getD (i + k) 0).toNat_lt
    rw [nbe, Nat.pow_succ]
    omega
theorem nbe_56 (s : Byt) (i k : Nat) (h : k ≤ 7) : nbe s i k < 72057594037927936 :=
  Nat.lt_of_lt_of_le (nbe_lt s i k) (Nat.le_trans (Nat.pow_le_pow_right (by decide) h) (by decide))
theorem nbe_64 (s : Byt) (i : Nat) : nbe s i 8 < 18446744073709551616 := nbe_lt s i 8
theorem u64_wrap (x : Nat) (h : x < 18446744073709551616) : IntKind.wrap .u64 (x : Int) = x := by
  show (x : Int) % 18446744073709551616 = x
  omega
theorem u64_or (e : Nat) (c : UInt8) (he : e < 72057594037927936) : IntKind.wrap .u64 ((((((e * 256 : Nat) : Int)) % 2 ^ IntKind.bits .u64).toNat ||| (((c.toNat : Int)) % 2 ^ IntKind.bits .u64).toNat : Nat) : Int) = ((e * 256 + c.toNat : Nat) : Int) := by
  have hc := c.toNat_lt
  have h1 : (((e * 256 : Nat) : Int) % 2 ^ IntKind.bits .u64).toNat = 2 ^ 8 * e := by
    show (((e * 256 : Nat) : Int) % 18446744073709551616).toNat = _
    omega
  have h2 : ((c.toNat : Int) % 2 ^ IntKind.bits .u64).toNat = c.toNat := by
    show ((c.toNat : Int) % 18446744073709551616).toNat = _
    omega
  rw [h1, h2, ← Nat.two_pow_add_eq_or_of_lt (by omega), u64_wrap _ (by omega)]
  congr 1
  omega
theorem u64_shl8 (e : Nat) (he : e < 72057594037927936) : IntKind.wrap .u64 ((e : Int) * 2 ^ (min (8 : Int).toNat (IntKind.bits .u64))) = ((e * 256 : Nat) : Int) := by
  have : (e : Int) * 2 ^ (min (8 : Int).toNat (IntKind.bits .u64)) = ((e * 256 : Nat) : Int) := by
    show (e : Int) * 256 = _
    omega
  rw [this, u64_wrap _ (by omega)]

theorem mk_read (b o n cp : Nat) (s : Byt) (L : List HP) (hn : n = s.length) (h17 : 17 ≤ n) (hb : n ≤ 1000000) (r : RdS 1 (some ⟨b, o, none⟩) n (s.map u8V) L) :
    TriE Tryz.prog 186 #[.slice (some ⟨b, o, none⟩) n cp] (fun v M => v = .agg (mkL (s.getD 0 0) (nbe s 1 8) (nbe s 9 8)).toArray ∧ M = L) L := by
  have hget : ∀ i, i < n → (s.map u8V)[i]? = some (u8V (s.getD i 0)) := fun i hi => by simp [show i < s.length by omega]
  refine Tri.of (N := 35) (args := [.slice (some ⟨b, o, none⟩) n cp]) Tryz.func186 rfl rfl rfl ?_
  refine go ?_
  intro b2
  refine go ?_
  refine WO.sv rfl ?_
  refine SV.loadR 0 rfl rds (by omega) (hget 0 (by omega)) ?_
  refine go ?_
  refine W.loopS 17179868936 rfl (fun j : Nat => [(8, .int .i64 j)]) (fun j => pts b2 (.cells [u8V (s.getD 0 0), .int .u64 (nbe s 1 j), .int .u64 (nbe s 9 j)].toArray 223) :: L)
    (fun j => j ≤ 8) (fun j => 8 - j) 0 ⟨rfl, trivial⟩ (Nat.zero_le _) (Ent.app ent) ?_
  intro j bg hj
  by_cases h8 : j < 8
  · have e1 := nbe_56 s 1 j (by omega)
    have e2 := nbe_56 s 9 j (by omega)
    have n1 : nbe s 1 (j + 1) = nbe s 1 j * 256 + (s.getD (1 + j) 0).toNat := rfl
    have n2 : nbe s 9 (j + 1) = nbe s 9 j * 256 + (s.getD (9 + j) 0).toNat := rfl
    have hc1 := (s.getD (1 + j) 0).toNat_lt
    have hc2 := (s.getD (9 + j) 0).toNat_lt
    have g1 := hget (1 + j) (by omega)
    have g2 := hget (9 + j) (by omega)
    generalize nbe s 1 j = x1 at *
    generalize nbe s 9 j = x2 at *
    generalize s.getD (1 + j) 0 = y1 at *
    generalize s.getD (9 + j) 0 = y2 at *
    refine go ?_
    refine W.drawA rfl (by kernel_rfl) (by kernel_rfl) ?_
    refine go ?_
    refine DA.q (v := .int .u64 ((x1 * 256 : Nat) : Int)) rfl rfl (SV.shl rfl rfl (by decide) (u64_shl8 x1 e1) eqq) ?_
    refine go ?_
    refine DA.q (v := u8V y1) rfl rfl (SV.loadR (1 + j) rfl rds (by omega) g1 eqq) ?_
    refine go ?_
    refine DA.q (v := .int .u64 ((x1 * 256 + y1.toNat : Nat) : Int)) rfl rfl (SV.bor rfl rfl (u64_or x1 y1 e1) eqq) ?_
    refine go ?_
    refine DA.v rfl rfl rfl ?_
    refine SV.store rfl rfl cel rfl rfl rfl frz le0 nl ?_
    refine go ?_
    refine W.drawA rfl (by kernel_rfl) (by kernel_rfl) ?_
    refine go ?_
    refine DA.q (v := .int .u64 ((x2 * 256 : Nat) : Int)) rfl rfl (SV.shl rfl rfl (by decide) (u64_shl8 x2 e2) eqq) ?_
    refine go ?_
    refine DA.q (v := u8V y2) rfl rfl (SV.loadR (9 + j) rfl rds (by omega) g2 eqq) ?_
    refine go ?_
    refine DA.q (v := .int .u64 ((x2 * 256 + y2.toNat : Nat) : Int)) rfl rfl (SV.bor rfl rfl (u64_or x2 y2 e2) eqq) ?_
    refine go ?_
    refine DA.v rfl rfl rfl ?_
    refine SV.store rfl rfl cel rfl rfl rfl frz le0 nl ?_
    refine go ?_
    refine ⟨j + 1, ⟨rfl, trivial⟩, rfl, by omega, by omega, Ent.app ?_⟩
    rw [n1, n2]
    exact ent
  · obtain rfl : j = 8 := by omega
    refine go ?_
    exact ⟨rfl, [_], ⟨Res.cell rfl le0 nl, trivial⟩, _, ent, rfl, rfl⟩
end Go.SL

/- Layer 1: numbers as bytes: the plain law. -/
namespace Go.SL
set_option linter.unusedVariables false
set_option linter.unusedSimpArgs false

/-- How many bytes a number takes. -/
def nbyF : Nat → Nat → Nat
  | 0, _ => 0
  | f + 1, v => if v = 0 then 0 else nbyF f (v / 256) + 1
def nby (v : Nat) : Nat := nbyF 9 v
/-- The last n bytes of a number. -/
def bytesN (v n : Nat) : Byt := (List.range n).map fun t => UInt8.ofNat (v / 256 ^ (n - 1 - t))
def encN (v : Nat) : Byt := UInt8.ofNat (nby v) :: bytesN v (nby v)
@[simp] theorem bytesN_len (v n : Nat) : (bytesN v n).length = n := by simp [bytesN]
theorem nbyF_spec : ∀ (f v : Nat), v < 256 ^ f → v < 256 ^ nbyF f v ∧ (nbyF f v ≠ 0 → 256 ^ (nbyF f v - 1) ≤ v) ∧ nbyF f v ≤ f
  | 0, v, h => ⟨by simpa [nbyF] using h, fun h => absurd rfl h, Nat.le_refl _⟩
  | f + 1, v, h => by
    unfold nbyF
    by_cases h0 : v = 0
    · rw [if_pos h0]; subst h0; exact ⟨by simp, fun h => absurd rfl h, Nat.zero_le _⟩
    · rw [if_neg h0]
      have hd : v / 256 < 256 ^ f := by rw [Nat.pow_succ] at h; omega
      obtain ⟨a, b, c⟩ := nbyF_spec f (v / 256) hd
      refine ⟨by rw [Nat.pow_succ]; omega, fun _ => ?_, by omega⟩
      show 256 ^ (nbyF f (v / 256)) ≤ v
      by_cases hz : nbyF f (v / 256) = 0
      · rw [hz]; simp; omega
      · have := b hz
        obtain ⟨m, hm⟩ : ∃ m, nbyF f (v / 256) = m + 1 := ⟨nbyF f (v / 256) - 1, by omega⟩
        rw [hm] at this ⊢
        rw [Nat.pow_succ]
        simp only [Nat.add_sub_cancel] at this
        omega
theorem nby_spec {v : Nat} (h : v < 18446744073709551616) : v < 256 ^ nby v ∧ (nby v ≠ 0 → 256 ^ (nby v - 1) ≤ v) ∧ nby v ≤ 8 := by
  obtain ⟨a, b, c⟩ := nbyF_spec 9 v (Nat.lt_of_lt_of_le h (by decide))
  refine ⟨a, b, ?_⟩
  refine Classical.byContradiction fun hc => ?_
  have e : nby v = 9 := by unfold nby at hc ⊢; omega
  have := b (by unfold nby at e; omega)
  unfold nby at e
  rw [e] at this
  have h2 : (256 : Nat) ^ (9 - 1) = 18446744073709551616 := by decide
  omega
theorem nby_of {v n : Nat} (hv : v < 18446744073709551616) (h1 : v < 256 ^ n) (h2 : n ≠ 0 → 256 ^ (n - 1) ≤ v) : nby v = n := by
  obtain ⟨a, b, _⟩ := nby_spec hv
  have key : ∀ p q : Nat, v < 256 ^ p → (q ≠ 0 → 256 ^ (q - 1) ≤ v) → q ≤ p := by
    intro p q hp hq
    refine Classical.byContradiction fun hc => ?_
    have h3 := hq (by omega)
    have h4 : 256 ^ p ≤ 256 ^ (q - 1) := Nat.pow_le_pow_right (by decide) (by omega)
    omega
  exact Nat.le_antisymm (key n (nby v) h1 b) (key (nby v) n a h2)
theorem nby_pos {v k : Nat} (hv : v < 18446744073709551616) : v / 256 ^ k = 0 ↔ nby v ≤ k := by
  obtain ⟨a, b, _⟩ := nby_spec hv
  have hp : 0 < 256 ^ k := Nat.pow_pos (by decide)
  constructor
  · intro h
    refine Classical.byContradiction fun hc => ?_
    have h3 := b (by omega)
    have h4 : 256 ^ k ≤ 256 ^ (nby v - 1) := Nat.pow_le_pow_right (by decide) (by omega)
    have h5 : v < 256 ^ k := by
      rw [Nat.div_eq_zero_iff] at h
      rcases h with h | h
      · omega
      · exact h
    omega
  · intro h
    exact Nat.div_eq_of_lt (Nat.lt_of_lt_of_le a (Nat.pow_le_pow_right (by decide) h))
theorem bytesN_succ (v k : Nat) : bytesN v (k + 1) = [UInt8.ofNat (v / 256 ^ k)] ++ bytesN v k := by
  unfold bytesN
  rw [List.range_succ_eq_map, List.map_cons, List.map_map, List.singleton_append]
  congr 1
  apply List.map_congr_left
  intro t ht
  rw [List.mem_range] at ht
  show UInt8.ofNat (v / 256 ^ (k + 1 - 1 - (t + 1))) = _
  congr 3
  omega
theorem bytesN_get {v n j : Nat} (h : j < n) : (bytesN v n)[j]? = some (UInt8.ofNat (v / 256 ^ (n - 1 - j))) := by
  unfold bytesN
  rw [List.getElem?_map, List.getElem?_range h]; rfl
theorem bytesN_take {v n j : Nat} (h : j < n) : (bytesN v n).take (j + 1) = (bytesN v n).take j ++ [UInt8.ofNat (v / 256 ^ (n - 1 - j))] := by
  have hl : j < (bytesN v n).length := by simpa using h
  rw [List.take_succ_eq_append_getElem hl]
  congr 2
  have := bytesN_get (v := v) h
  rw [List.getElem?_eq_getElem hl] at this
  exact Option.some.inj this
/-- What is read back. -/
theorem nbe_bytes (v : Nat) (q : Byt) : ∀ n k, k ≤ n → nbe (bytesN v n ++ q) 0 k = v % 256 ^ n / 256 ^ (n - k)
  | n, 0, _ => by
    rw [nbe, Nat.sub_zero, Nat.div_eq_of_lt (Nat.mod_lt _ (Nat.pow_pos (by decide)))]
  | n, k + 1, h => by
    have ih := nbe_bytes v q n k (by omega)
    have hg : (bytesN v n ++ q).getD (0 + k) 0 = UInt8.ofNat (v / 256 ^ (n - 1 - k)) := by
      rw [Nat.zero_add, List.getD_eq_getElem?_getD, List.getElem?_append_left (by simp; omega), bytesN_get (by omega)]; rfl
    rw [nbe, ih, hg, UInt8.toNat_ofNat', show n - (k + 1) = n - 1 - k by omega]
    obtain ⟨m, hm⟩ : ∃ m, n - 1 - k = m := ⟨_, rfl⟩
    have e1 : n - k = m + 1 := by omega
    have e2 : n = (k + 1) + m := by omega
    rw [hm, e1, Nat.pow_succ, ← Nat.div_div_eq_div_mul]
    have e3 : v % 256 ^ n / 256 ^ m = v / 256 ^ m % 256 ^ (k + 1) := by
      rw [e2, Nat.pow_add, Nat.mul_comm, Nat.mod_mul_right_div_self]
    rw [e3]
    have e4 : v / 256 ^ m % 2 ^ 8 = v / 256 ^ m % 256 ^ (k + 1) % 256 := by
      rw [Nat.mod_mod_of_dvd _ ⟨256 ^ k, by rw [Nat.pow_succ, Nat.mul_comm]⟩]
    rw [e4]
    omega
theorem nbe_enc {v : Nat} (hv : v < 18446744073709551616) (q : Byt) : nbe (bytesN v (nby v) ++ q) 0 (nby v) = v := by
  rw [nbe_bytes v q (nby v) (nby v) (Nat.le_refl _), Nat.sub_self, Nat.pow_zero, Nat.div_one]
  exact Nat.mod_eq_of_lt (nby_spec hv).1
theorem enc_head {v : Nat} (hv : v < 18446744073709551616) (h0 : nby v ≠ 0) : (bytesN v (nby v)).getD 0 0 ≠ 0 := by
  obtain ⟨a, b, c⟩ := nby_spec hv
  have h1 := b h0
  rw [List.getD_eq_getElem?_getD, bytesN_get (by omega)]
  intro h
  have := congrArg UInt8.toNat h
  rw [Option.getD_some, UInt8.toNat_ofNat', Nat.sub_zero] at this
  have h3 : v / 256 ^ (nby v - 1) < 256 := by
    rw [Nat.div_lt_iff_lt_mul (Nat.pow_pos (by decide)), ← Nat.pow_succ', show (nby v - 1).succ = nby v by omega]
    exact a
  have h4 : 1 ≤ v / 256 ^ (nby v - 1) := by
    rw [Nat.le_div_iff_mul_le (Nat.pow_pos (by decide)), Nat.one_mul]; exact h1
  have h5 : (0 : UInt8).toNat = 0 := rfl
  rw [h5] at this
  omega
theorem encN_len {v : Nat} (hv : v < 18446744073709551616) : (encN v).length ≤ 9 := by
  unfold encN
  have := (nby_spec hv).2.2
  simp; omega

/-! ### Reading -/
/-- What is left, and the first error. -/
structure LI where
  b : Byt
  bad : Nat
def LI.no (i : LI) (e : Nat) : LI := ⟨[], if i.bad = 0 then e else i.bad⟩
/-- A number. -/
def LI.num (i : LI) : LI × Nat :=
  if i.bad ≠ 0 then (i, 0)
  else match i.b with
    | [] => (i.no 10, 0)
    | c :: r =>
      if 8 < c.toNat then (i.no 11, 0)
      else if r.length < c.toNat then (i.no 10, 0)
      else if 0 < c.toNat ∧ r.getD 0 0 = 0 then (i.no 11, 0)
      else (⟨r.drop c.toNat, 0⟩, nbe r 0 c.toNat)
/-- One that is not above a greatest. -/
def LI.small (i : LI) (most : Nat) : LI × Nat :=
  if i.num.1.bad = 0 ∧ most < i.num.2 then (i.num.1.no 3, 0) else i.num
def LI.fin (i : LI) : Nat := if i.bad = 0 ∧ i.b ≠ [] then 11 else i.bad
theorem LI.num_enc {v : Nat} (hv : v < 18446744073709551616) (q : Byt) : (LI.mk (encN v ++ q) 0).num = (⟨q, 0⟩, v) := by
  have h8 := (nby_spec hv).2.2
  have hc : (UInt8.ofNat (nby v)).toNat = nby v := by rw [UInt8.toNat_ofNat']; omega
  unfold LI.num encN
  rw [if_neg (by simp)]
  simp only [List.cons_append, hc]
  rw [if_neg (by omega), if_neg (by simp), if_neg ?_]
  · rw [nbe_enc hv]
    congr 2
    rw [List.drop_append_of_le_length (by simp), List.drop_eq_nil_of_le (by simp), List.nil_append]
  · rintro ⟨h1, h2⟩
    refine enc_head hv (by omega) ?_
    rw [List.getD_eq_getElem?_getD, List.getElem?_append_left (by simpa using h1)] at h2
    rw [List.getD_eq_getElem?_getD]
    exact h2
theorem LI.num_lt (i : LI) : i.num.2 < 18446744073709551616 := by
  have hz : (0 : Nat) < 18446744073709551616 := by decide
  unfold LI.num
  split
  · exact hz
  · split
    · exact hz
    · split
      · exact hz
      · split
        · exact hz
        · split
          · exact hz
          · rename_i c r _ h1 _ _
            exact Nat.lt_of_lt_of_le (nbe_lt r 0 c.toNat) (Nat.le_trans (Nat.pow_le_pow_right (by decide) (show c.toNat ≤ 8 by omega)) (by decide))
theorem LI.num_bad (i : LI) (h : i.num.1.bad ≠ 0) : i.num.2 = 0 := by
  revert h
  unfold LI.num
  split
  · exact fun _ => rfl
  · split
    · exact fun _ => rfl
    · split
      · exact fun _ => rfl
      · split
        · exact fun _ => rfl
        · split
          · exact fun _ => rfl
          · exact fun h => absurd rfl h
theorem LI.num_len (i : LI) : i.num.1.b.length ≤ i.b.length := by
  unfold LI.num LI.no
  split
  · exact Nat.le_refl _
  · split
    · simp
    · split
      · simp
      · split
        · simp
        · split
          · simp
          · rename_i c r e _ _ _
            simp [e]; omega
theorem LI.small_enc {v m : Nat} (hv : v < 18446744073709551616) (hm : v ≤ m) (q : Byt) : (LI.mk (encN v ++ q) 0).small m = (⟨q, 0⟩, v) := by
  unfold LI.small
  rw [LI.num_enc hv, if_neg]
  rintro ⟨_, h⟩
  exact absurd h (by omega)
end Go.SL

/- Layer 1: the program's reader, walked. -/
namespace Go.SL
open Go.Proofs
set_option linter.unusedVariables false
set_option linter.unusedSimpArgs false
set_option maxRecDepth 10000
set_option maxHeartbeats 4000000
attribute [local irreducible] W WO SV OW SW Tri Ent Tk Has Src SrcK DA DB RdS Own

abbrev LIn (p : Nat) (i : LI) : HP := pts p (.cells [.bool true, strV i.b, .int .i64 i.bad].toArray 247)
theorem l1_none (p : Nat) (i : LI) (L : List HP) : TriE Tryz.prog 212 #[.pointer (some ⟨p, 0, none⟩)] (fun r M => r = .bool false ∧ M = LIn p i :: L) (LIn p i :: L) := by
  refine Tri.of (N := 12) (args := [.pointer (some ⟨p, 0, none⟩)]) Tryz.func212 rfl rfl rfl ?_
  refine go ?_
  exact ⟨rfl, [_], ⟨Res.tmp rfl, trivial⟩, _, ent, rfl, rfl⟩
theorem l1_noneN (L : List HP) : TriE Tryz.prog 212 #[.pointer none] (fun r M => r = .bool true ∧ M = L) L := by
  refine Tri.of (N := 12) (args := [.pointer none]) Tryz.func212 rfl rfl rfl ?_
  refine go ?_
  exact ⟨rfl, [_], ⟨Res.tmp rfl, trivial⟩, _, ent, rfl, rfl⟩
theorem l1_fine (p : Nat) (i : LI) (L : List HP) : TriE Tryz.prog 189 #[.pointer (some ⟨p, 0, none⟩)] (fun r M => r = .bool (decide (i.bad = 0)) ∧ M = LIn p i :: L) (LIn p i :: L) := by
  refine Tri.of (N := 13) (args := [.pointer (some ⟨p, 0, none⟩)]) Tryz.func189 rfl rfl rfl ?_
  refine go ?_
  refine WO.callE (vs := [.pointer (some ⟨p, 0, none⟩)]) Tryz.func212 rfl rfl rfl rfl (l1_none p i L) ?_
  rintro v M ⟨rfl, rfl⟩
  by_cases h : i.bad = 0
  · rw [decide_eq_true h]
    refine go ?_
    exact ⟨rfl, [_], ⟨Res.tmp rfl, trivial⟩, _, ent, rfl, rfl⟩
  · rw [decide_eq_false h]
    refine go ?_
    exact ⟨rfl, [_], ⟨Res.tmp rfl, trivial⟩, _, ent, rfl, rfl⟩
theorem l1_stop (p : Nat) (i : LI) (e : Nat) (L : List HP) : TriE Tryz.prog 190 #[.pointer (some ⟨p, 0, none⟩), .int .i64 e] (fun r M => r = .tuple #[] ∧ M = LIn p (i.no e) :: L) (LIn p i :: L) := by
  dsimp only [LI.no, LIn]
  refine Tri.of (N := 16) (args := [.pointer (some ⟨p, 0, none⟩), .int .i64 e]) Tryz.func190 rfl rfl rfl ?_
  by_cases h : i.bad = 0
  · rw [if_pos h]
    refine go ?_
    exact ⟨rfl, [], trivial, _, ent, rfl, rfl⟩
  · rw [if_neg h]
    refine go ?_
    exact ⟨rfl, [], trivial, _, ent, rfl, rfl⟩
theorem l1_take (p : Nat) (i : LI) (m : Nat) (L : List HP) (hm : m ≤ i.b.length) : TriE Tryz.prog 191 #[.pointer (some ⟨p, 0, none⟩), .int .i64 m] (fun r M => r = strV (i.b.take m) ∧ M = LIn p ⟨i.b.drop m, i.bad⟩ :: L) (LIn p i :: L) := by
  refine Tri.of (N := 22) (args := [.pointer (some ⟨p, 0, none⟩), .int .i64 m]) Tryz.func191 rfl rfl rfl ?_
  refine go ?_
  refine WO.sv rfl ?_
  refine SV.cutStr (l := 0) (h := m) (s' := i.b.take m) rfl rfl (cutAt.of rfl rfl) (by omega) hm rfl ?_
  refine go ?_
  refine WO.sv rfl ?_
  refine SV.cutStr (l := m) (h := i.b.length) (s' := i.b.drop m) rfl (cutAt.of rfl rfl) rfl hm (Nat.le_refl _) (by rw [List.take_length]) ?_
  refine go ?_
  exact ⟨rfl, [_], ⟨Res.tmp rfl, trivial⟩, _, ent, rfl, rfl⟩
theorem l1_Bad (p : Nat) (i : LI) (L : List HP) : TriE Tryz.prog 192 #[.pointer (some ⟨p, 0, none⟩)] (fun r M => r = .int .i64 i.bad ∧ M = LIn p i :: L) (LIn p i :: L) := by
  refine Tri.of (N := 9) (args := [.pointer (some ⟨p, 0, none⟩)]) Tryz.func192 rfl rfl rfl ?_
  refine go ?_
  refine WO.callE (vs := [.pointer (some ⟨p, 0, none⟩)]) Tryz.func212 rfl rfl rfl rfl (l1_none p i L) ?_
  rintro v M ⟨rfl, rfl⟩
  refine go ?_
  exact ⟨rfl, [_], ⟨Res.tmp rfl, trivial⟩, _, ent, rfl, rfl⟩
theorem l1_End (p : Nat) (i : LI) (L : List HP) : TriE Tryz.prog 167 #[.pointer (some ⟨p, 0, none⟩)] (fun r M => r = .int .i64 i.fin ∧ M = LIn p i :: L) (LIn p i :: L) := by
  unfold LI.fin
  refine Tri.of (N := 14) (args := [.pointer (some ⟨p, 0, none⟩)]) Tryz.func167 rfl rfl rfl ?_
  refine go ?_
  refine WO.callE (vs := [.pointer (some ⟨p, 0, none⟩)]) Tryz.func189 rfl rfl rfl rfl (l1_fine p i L) ?_
  rintro v M ⟨rfl, rfl⟩
  by_cases h : i.bad = 0
  · rw [decide_eq_true h]
    by_cases h2 : i.b = []
    · rw [if_neg (fun g => g.2 h2)]
      refine go ?_
      refine WO.sv rfl ?_
      refine SV.neqSF (a := i.b) (b := []) rfl rfl h2 ?_
      refine go ?_
      refine WO.callE (vs := [.pointer (some ⟨p, 0, none⟩)]) Tryz.func192 rfl rfl rfl rfl (l1_Bad p i L) ?_
      rintro v M ⟨rfl, rfl⟩
      refine go ?_
      exact ⟨rfl, [_], ⟨Res.tmp rfl, trivial⟩, _, ent, rfl, rfl⟩
    · rw [if_pos ⟨h, h2⟩]
      refine go ?_
      refine WO.sv rfl ?_
      refine SV.neqST (a := i.b) (b := []) rfl rfl h2 ?_
      refine go ?_
      exact ⟨rfl, [_], ⟨Res.tmp rfl, trivial⟩, _, ent, rfl, rfl⟩
  · rw [decide_eq_false h, if_neg (fun g => h g.1)]
    refine go ?_
    refine WO.callE (vs := [.pointer (some ⟨p, 0, none⟩)]) Tryz.func192 rfl rfl rfl rfl (l1_Bad p i L) ?_
    rintro v M ⟨rfl, rfl⟩
    refine go ?_
    exact ⟨rfl, [_], ⟨Res.tmp rfl, trivial⟩, _, ent, rfl, rfl⟩
theorem l1_Read (b : Byt) (L : List HP) : TriE Tryz.prog 164 #[strV b] (fun r M => ∃ p, r = .pointer (some ⟨p, 0, none⟩) ∧ M = LIn p ⟨b, 0⟩ :: L) L := by
  refine Tri.of (N := 6) (args := [strV b]) Tryz.func164 rfl rfl rfl ?_
  refine go ?_
  intro p
  refine go ?_
  exact ⟨rfl, [_], ⟨Res.tmp rfl, trivial⟩, _, ent, p, rfl, rfl⟩
end Go.SL

/- Layer 1: the program's numbers, walked. -/
namespace Go.SL
open Go.Proofs
set_option linter.unusedVariables false
set_option linter.unusedSimpArgs false
set_option maxRecDepth 10000
set_option maxHeartbeats 4000000
attribute [local irreducible] W WO SV OW SW Tri Ent Tk Has Src SrcK DA DB RdS Own

theorem l1_Number (p : Nat) (i : LI) (L : List HP) (hb : i.b.length ≤ 1000000) :
    TriE Tryz.prog 165 #[.pointer (some ⟨p, 0, none⟩)] (fun r M => r = .int .u64 i.num.2 ∧ M = LIn p i.num.1 :: L) (LIn p i :: L) := by
  refine Tri.of (N := 75) (args := [.pointer (some ⟨p, 0, none⟩)]) Tryz.func165 rfl rfl rfl ?_
  refine go ?_
  refine WO.callE (vs := [.pointer (some ⟨p, 0, none⟩)]) Tryz.func189 rfl rfl rfl rfl (l1_fine p i L) ?_
  rintro v M ⟨rfl, rfl⟩
  by_cases hbad : i.bad ≠ 0
  · have e : i.num = (i, 0) := by unfold LI.num; rw [if_pos hbad]
    rw [e, decide_eq_false hbad]
    refine go ?_
    exact ⟨rfl, [_], ⟨Res.tmp rfl, trivial⟩, _, ent, rfl, rfl⟩
  have hbad : i.bad = 0 := Classical.not_not.1 hbad
  rw [decide_eq_true hbad]
  have hStop := fun e L => l1_stop p i e L
  have hTake := fun m L => l1_take p i m L
  obtain ⟨b, bad⟩ := i
  dsimp only at hb hbad hStop hTake
  subst hbad
  dsimp only [LIn]
  have stop : ∀ (e : Nat), (LI.mk b 0).no e = ⟨[], e⟩ := fun e => by unfold LI.no; rw [if_pos rfl]
  cases b with
  | nil =>
    have e : (LI.mk [] 0).num = ((LI.mk [] 0).no 10, 0) := by unfold LI.num; rfl
    rw [e]
    refine go ?_
    refine WO.sv rfl ?_
    refine SV.eqlST (a := []) (b := []) rfl rfl rfl ?_
    refine go ?_
    refine WO.callE (vs := [.pointer (some ⟨p, 0, none⟩), .int .i64 10]) Tryz.func190 rfl rfl rfl rfl (hStop 10 _) ?_
    rintro v M ⟨rfl, rfl⟩
    refine go ?_
    exact ⟨rfl, [_], ⟨Res.tmp rfl, trivial⟩, _, ent, rfl, rfl⟩
  | cons c r =>
    have hc := c.toNat_lt
    have hl : (c :: r).length = r.length + 1 := rfl
    rw [hl] at hb
    have gg : (c :: r)[(0 : Int).toNat]? = some c := rfl
    have num : (LI.mk (c :: r) 0).num = if 8 < c.toNat then ((LI.mk (c :: r) 0).no 11, 0) else if r.length < c.toNat then ((LI.mk (c :: r) 0).no 10, 0) else if 0 < c.toNat ∧ r.getD 0 0 = 0 then ((LI.mk (c :: r) 0).no 11, 0) else (⟨r.drop c.toNat, 0⟩, nbe r 0 c.toNat) := by
      unfold LI.num; rw [if_neg (by simp)]
    rw [num]
    clear num
    refine go ?_
    refine WO.sv rfl ?_
    refine SV.eqlSF (a := c :: r) (b := []) rfl rfl (by simp) ?_
    refine go ?_
    refine WO.sv rfl ?_
    refine SV.indexS rfl rfl (by decide) gg ?_
    by_cases h8 : 8 < c.toNat
    · rw [if_pos h8]
      refine go ?_
      refine WO.callE (vs := [.pointer (some ⟨p, 0, none⟩), .int .i64 11]) Tryz.func190 rfl rfl rfl rfl (hStop 11 _) ?_
      rintro v M ⟨rfl, rfl⟩
      refine go ?_
      exact ⟨rfl, [_], ⟨Res.tmp rfl, trivial⟩, _, ent, rfl, rfl⟩
    rw [if_neg h8]
    refine go ?_
    refine WO.sv rfl ?_
    refine SV.indexS rfl rfl (by decide) gg ?_
    by_cases hr : r.length < c.toNat
    · rw [if_pos hr]
      refine go ?_
      refine WO.callE (vs := [.pointer (some ⟨p, 0, none⟩), .int .i64 10]) Tryz.func190 rfl rfl rfl rfl (hStop 10 _) ?_
      rintro v M ⟨rfl, rfl⟩
      refine go ?_
      exact ⟨rfl, [_], ⟨Res.tmp rfl, trivial⟩, _, ent, rfl, rfl⟩
    rw [if_neg hr]
    have htk : ((c :: r).take (1 + c.toNat)).drop 1 = r.take c.toNat := by rw [Nat.add_comm, List.take_succ_cons, List.drop_succ_cons, List.drop_zero]
    have hdr : (c :: r).drop (1 + c.toNat) = r.drop c.toNat := by rw [Nat.add_comm, List.drop_succ_cons]
    have htl : (r.take c.toNat).length = c.toNat := by rw [List.length_take]; omega
    have hT := hTake (1 + c.toNat) L (by rw [hl]; omega)
    rw [hdr] at hT
    by_cases hz : 0 < c.toNat ∧ r.getD 0 0 = 0
    · rw [if_pos hz]
      have g1 : (c :: r)[(1 : Int).toNat]? = some (r.getD 0 0) := by
        rw [show (1 : Int).toNat = 0 + 1 by rfl, List.getElem?_cons_succ]
        simp [show 0 < r.length by omega]
      have h0 : (r.getD 0 0).toNat = 0 := by rw [hz.2]; rfl
      have hz1 := hz.1
      refine go ?_
      refine WO.sv rfl ?_
      refine SV.indexS rfl rfl (by decide) g1 ?_
      refine go ?_
      refine WO.callE (vs := [.pointer (some ⟨p, 0, none⟩), .int .i64 11]) Tryz.func190 rfl rfl rfl rfl (hStop 11 _) ?_
      rintro v M ⟨rfl, rfl⟩
      refine go ?_
      exact ⟨rfl, [_], ⟨Res.tmp rfl, trivial⟩, _, ent, rfl, rfl⟩
    rw [if_neg hz]
    refine WO.sv rfl ?_
    refine SV.convInt rfl wI ?_
    refine WO.sv rfl ?_
    refine SV.assign rfl ?_
    refine goC ?_
    refine W.cut (σ := Unit) 4380866641920 rfl (fun _ => [(34, .bool false)]) (fun _ => pts p (.cells [.bool true, strV (c :: r), .int .i64 0].toArray 247) :: L) (fun _ => True) ?_ ?_
    · refine go ?_
      exact ⟨(), ⟨rfl, trivial⟩, rfl, trivial, ent⟩
    rintro - bg -
    refine goC ?_
    refine W.cut (σ := Unit) 36011204832919552 rfl (fun _ => [(44, .bool false)]) (fun _ => pts p (.cells [.bool true, strV (c :: r), .int .i64 0].toArray 247) :: L) (fun _ => True) ?_ ?_
    · by_cases hz1 : 0 < c.toNat
      · have g1 : (c :: r)[(1 : Int).toNat]? = some (r.getD 0 0) := by
          rw [show (1 : Int).toNat = 0 + 1 by rfl, List.getElem?_cons_succ]
          simp [show 0 < r.length by omega]
        have h0 : (r.getD 0 0).toNat ≠ 0 := fun h => hz ⟨hz1, UInt8.toNat_inj.1 h⟩
        refine go ?_
        refine WO.sv rfl ?_
        refine SV.indexS rfl rfl (by decide) g1 ?_
        refine go ?_
        exact ⟨(), ⟨rfl, trivial⟩, rfl, trivial, ent⟩
      · refine go ?_
        exact ⟨(), ⟨rfl, trivial⟩, rfl, trivial, ent⟩
    rintro - bg2 -
    refine go ?_
    refine WO.callE (vs := [.pointer (some ⟨p, 0, none⟩), .int .i64 ((1 + c.toNat : Nat) : Int)]) Tryz.func191 rfl rfl rfl rfl hT ?_
    rintro v M ⟨rfl, rfl⟩
    refine WO.sv rfl ?_
    refine SV.cutStr (l := 1) (h := ((c :: r).take (1 + c.toNat)).length) (s' := r.take c.toNat) rfl (cutAt.of rfl rfl) rfl (by rw [List.length_take, hl]; omega) (Nat.le_refl _) (by rw [List.take_length, htk]) ?_
    refine WO.sv rfl ?_
    refine SV.toBytes (bs := r.take c.toNat) rfl ?_
    intro bt ct hct
    have hget : ∀ k, k < c.toNat → ((r.take c.toNat).map u8V)[k]? = some (u8V (r.getD k 0)) := by
      intro k hk
      rw [List.getElem?_map, List.getElem?_take_of_lt hk]
      simp [show k < r.length by omega]
    have rT : ∀ M, RdS 1 (some ⟨bt, 0, none⟩) (r.take c.toNat).length ((r.take c.toNat).map u8V) (Own 5 1 (.slice (some ⟨bt, 0, none⟩) (r.take c.toNat).length ct) (r.take c.toNat).length ((r.take c.toNat).map u8V) :: M) := fun M => RdS.ownS Tk.here (fun _ => ⟨bt, rfl⟩) (by simp)
    rw [htl] at rT ⊢
    refine go ?_
    refine W.loopS 18871019187404871303248 rfl (fun k : Nat => [(64, .int .i64 (k : Int)), (4, .int .u64 (nbe r 0 k))]) (fun _ => Own 5 1 (.slice (some ⟨bt, 0, none⟩) c.toNat ct) c.toNat ((r.take c.toNat).map u8V) :: LIn p ⟨r.drop c.toNat, 0⟩ :: L)
      (fun k => k ≤ c.toNat) (fun k => c.toNat - k) 0 ⟨rfl, rfl, trivial⟩ (Nat.zero_le _) (Ent.app ent) ?_
    intro k bg3 hk
    by_cases h9 : k < c.toNat
    · have e1 := nbe_56 r 0 k (by omega)
      have n1 : nbe r 0 (k + 1) = nbe r 0 k * 256 + (r.getD k 0).toNat := by
        show nbe r 0 k * 256 + (r.getD (0 + k) 0).toNat = _
        rw [Nat.zero_add]
      have hc1 := (r.getD k 0).toNat_lt
      have g1 := hget k h9
      generalize nbe r 0 k = x1 at *
      generalize r.getD k 0 = y1 at *
      refine go ?_
      refine WO.sv rfl ?_
      refine SV.loadR k rfl (rT _) (by omega) g1 ?_
      refine go ?_
      refine WO.sv rfl ?_
      refine SV.shl rfl rfl (by decide) (u64_shl8 x1 e1) ?_
      refine go ?_
      refine WO.sv rfl ?_
      refine SV.bor rfl rfl (u64_or x1 y1 e1) ?_
      refine go ?_
      exact ⟨k + 1, ⟨rfl, by rw [n1]; rfl, trivial⟩, rfl, by omega, by omega, Ent.app ent⟩
    · obtain rfl : k = c.toNat := by omega
      refine go ?_
      exact ⟨rfl, [_], ⟨Res.tmp rfl, trivial⟩, _, ent, rfl, rfl⟩
theorem l1_Small (p : Nat) (i : LI) (most : Nat) (L : List HP) (hb : i.b.length ≤ 1000000) (hm : most ≤ 4611686018427387904) :
    TriE Tryz.prog 166 #[.pointer (some ⟨p, 0, none⟩), .int .i64 most] (fun r M => r = .int .i64 (i.small most).2 ∧ M = LIn p (i.small most).1 :: L) (LIn p i :: L) := by
  have hlt := i.num_lt
  have hz := i.num_bad
  have hN := fun L => l1_Number p i L hb
  unfold LI.small
  refine Tri.of (N := 24) (args := [.pointer (some ⟨p, 0, none⟩), .int .i64 most]) Tryz.func166 rfl rfl rfl ?_
  refine go ?_
  refine WO.callE (vs := [.pointer (some ⟨p, 0, none⟩)]) Tryz.func165 rfl rfl rfl rfl (hN _) ?_
  rintro v M ⟨rfl, rfl⟩
  generalize i.num = x at *
  obtain ⟨j, v⟩ := x
  dsimp only at hlt hz ⊢
  refine go ?_
  refine WO.callE (vs := [.pointer (some ⟨p, 0, none⟩)]) Tryz.func189 rfl rfl rfl rfl (l1_fine p j L) ?_
  rintro v M ⟨rfl, rfl⟩
  by_cases h0 : j.bad = 0
  · rw [decide_eq_true h0]
    by_cases h1 : most < v
    · rw [if_pos ⟨h0, h1⟩]
      refine go ?_
      refine WO.callE (vs := [.pointer (some ⟨p, 0, none⟩), .int .i64 3]) Tryz.func190 rfl rfl rfl rfl (l1_stop p j 3 L) ?_
      rintro v M ⟨rfl, rfl⟩
      refine go ?_
      exact ⟨rfl, [_], ⟨Res.tmp rfl, trivial⟩, _, ent, rfl, rfl⟩
    · rw [if_neg (fun g => h1 g.2)]
      refine go ?_
      exact ⟨rfl, [_], ⟨Res.tmp rfl, trivial⟩, _, ent, rfl, rfl⟩
  · rw [decide_eq_false h0, if_neg (fun g => h0 g.1)]
    have := hz h0
    subst this
    refine go ?_
    exact ⟨rfl, [_], ⟨Res.tmp rfl, trivial⟩, _, ent, rfl, rfl⟩
end Go.SL

/- Layer 1: the program's numbers as bytes, walked. -/
namespace Go.SL
open Go.Proofs
set_option linter.unusedVariables false
set_option linter.unusedSimpArgs false
set_option maxRecDepth 10000
set_option maxHeartbeats 4000000
attribute [local irreducible] W WO SV OW SW Tri Ent Tk Has Src SrcK DA DB RdS Own

def bl (y : Nat) : Nat := if y = 0 then 0 else Nat.log2 y + 1
def lenTab : Byt := (List.range 256).map fun y => UInt8.ofNat (bl y)
theorem bl_spec {y : Nat} : y < 2 ^ bl y ∧ (y ≠ 0 → 2 ^ (bl y - 1) ≤ y ∧ bl y ≠ 0) := by
  unfold bl
  by_cases h : y = 0
  · subst h; exact ⟨by decide, fun h => absurd rfl h⟩
  · rw [if_neg h]
    exact ⟨Nat.lt_log2_self, fun _ => ⟨Nat.log2_self_le h, Nat.succ_ne_zero _⟩⟩
theorem bl_le {y : Nat} (h : y < 256) : bl y ≤ 8 := by
  refine Classical.byContradiction fun hc => ?_
  have h1 := bl_spec (y := y)
  have h0 : y ≠ 0 := by rintro rfl; exact hc (by decide)
  have h2 := (h1.2 h0).1
  have h3 : 2 ^ 8 ≤ 2 ^ (bl y - 1) := Nat.pow_le_pow_right (by decide) (by omega)
  omega
theorem lenTab_get {y : Nat} (h : y < 256) : lenTab[((y : Nat) : Int).toNat]? = some (UInt8.ofNat (bl y)) := by
  unfold lenTab
  simp [h]
theorem shrN (x s : Nat) (h : s ≤ 64) : (x : Int).fdiv (2 ^ (min ((s : Nat) : Int).toNat (IntKind.bits .u64))) = ((x / 2 ^ s : Nat) : Int) := by
  have e : min ((s : Nat) : Int).toNat (IntKind.bits .u64) = s := by show min _ 64 = _; omega
  rw [e, Int.fdiv_eq_ediv_of_nonneg _ (by exact_mod_cast Nat.zero_le _)]
  exact_mod_cast rfl
theorem len_of {x s : Nat} (h : x / 2 ^ s < 256) (hs : s ≠ 0 → 0 < x / 2 ^ s) : x < 2 ^ (s + bl (x / 2 ^ s)) ∧ (s + bl (x / 2 ^ s) ≠ 0 → 2 ^ (s + bl (x / 2 ^ s) - 1) ≤ x) := by
  obtain ⟨h1, h2⟩ := bl_spec (y := x / 2 ^ s)
  have hp : 0 < 2 ^ s := Nat.two_pow_pos s
  refine ⟨?_, fun hn => ?_⟩
  · rw [Nat.pow_add, Nat.mul_comm, ← Nat.div_lt_iff_lt_mul hp]; exact h1
  · have hy : x / 2 ^ s ≠ 0 := by
      intro hz
      have : s = 0 := Classical.byContradiction fun hs0 => by have := hs hs0; omega
      subst this
      rw [hz] at hn
      exact hn (by decide)
    obtain ⟨h3, h4⟩ := h2 hy
    rw [show s + bl (x / 2 ^ s) - 1 = s + (bl (x / 2 ^ s) - 1) by omega, Nat.pow_add, Nat.mul_comm]
    rw [← Nat.le_div_iff_mul_le hp]
    exact h3
theorem bi_Len64 (x : Nat) (L : List HP) (hx : x < 18446744073709551616) :
    TriE Tryz.prog 209 #[.int .u64 x] (fun r M => ∃ n : Nat, r = .int .i64 n ∧ x < 2 ^ n ∧ (n ≠ 0 → 2 ^ (n - 1) ≤ x) ∧ n ≤ 64 ∧ M = L) L := by
  have fin : ∀ s : Nat, s ≤ 56 → x / 2 ^ s < 256 → (s ≠ 0 → 0 < x / 2 ^ s) → ∃ n : Nat, Value.int .i64 ((s : Int) + ((UInt8.ofNat (bl (x / 2 ^ s))).toNat : Int)) = .int .i64 n ∧ x < 2 ^ n ∧ (n ≠ 0 → 2 ^ (n - 1) ≤ x) ∧ n ≤ 64 ∧ L = L := by
    intro s hs h1 h2
    have hb := bl_le h1
    obtain ⟨g1, g2⟩ := len_of h1 h2
    refine ⟨s + bl (x / 2 ^ s), ?_, g1, g2, by omega, rfl⟩
    rw [UInt8.toNat_ofNat']
    congr 1
    omega
  have c32 := shrN x 32 (by decide)
  have e32 : x / 2 ^ 32 = x / 4294967296 := rfl
  refine Tri.of (N := 25) (args := [.int .u64 x]) Tryz.func209 rfl rfl rfl ?_
  by_cases h32 : 4294967296 ≤ x
  · refine go ?_
    refine WO.sv rfl ?_
    refine SV.shr rfl rfl (by decide) (shrN (x) 32 (by decide)) ?_
    rw [show (x) / 2 ^ 32 = x / 4294967296 from rfl]
    by_cases h16 : 65536 ≤ x / 4294967296
    · refine go ?_
      refine WO.sv rfl ?_
      refine SV.shr rfl rfl (by decide) (shrN (x / 4294967296) 16 (by decide)) ?_
      rw [show (x / 4294967296) / 2 ^ 16 = x / 4294967296 / 65536 from rfl]
      by_cases h8 : 256 ≤ x / 4294967296 / 65536
      · refine go ?_
        refine WO.sv rfl ?_
        refine SV.shr rfl rfl (by decide) (shrN (x / 4294967296 / 65536) 8 (by decide)) ?_
        rw [show (x / 4294967296 / 65536) / 2 ^ 8 = x / 4294967296 / 65536 / 256 from rfl]
        refine go ?_
        refine WO.sv rfl ?_
        refine SV.indexS (s := lenTab) (by kernel_rfl) rfl (by omega) (lenTab_get (show x / 4294967296 / 65536 / 256 < 256 by omega)) ?_
        have hf := fin 56 (by decide) (by first | omega | (rw [show x / 2 ^ 56 = x / 4294967296 / 65536 / 256 by rw [Nat.div_div_eq_div_mul, Nat.div_div_eq_div_mul]]; omega)) (by first | omega | (rw [show x / 2 ^ 56 = x / 4294967296 / 65536 / 256 by rw [Nat.div_div_eq_div_mul, Nat.div_div_eq_div_mul]]; omega))
        rw [show x / 2 ^ 56 = x / 4294967296 / 65536 / 256 by rw [Nat.div_div_eq_div_mul, Nat.div_div_eq_div_mul]] at hf
        have hu := (UInt8.ofNat (bl (x / 4294967296 / 65536 / 256))).toNat_lt
        generalize (UInt8.ofNat (bl (x / 4294967296 / 65536 / 256))).toNat = u at *
        refine go ?_
        exact ⟨rfl, [_], ⟨Res.tmp rfl, trivial⟩, L, ent, hf⟩
      · refine go ?_
        refine WO.sv rfl ?_
        refine SV.indexS (s := lenTab) (by kernel_rfl) rfl (by omega) (lenTab_get (show x / 4294967296 / 65536 < 256 by omega)) ?_
        have hf := fin 48 (by decide) (by first | omega | (rw [show x / 2 ^ 48 = x / 4294967296 / 65536 by rw [Nat.div_div_eq_div_mul]]; omega)) (by first | omega | (rw [show x / 2 ^ 48 = x / 4294967296 / 65536 by rw [Nat.div_div_eq_div_mul]]; omega))
        rw [show x / 2 ^ 48 = x / 4294967296 / 65536 by rw [Nat.div_div_eq_div_mul]] at hf
        have hu := (UInt8.ofNat (bl (x / 4294967296 / 65536))).toNat_lt
        generalize (UInt8.ofNat (bl (x / 4294967296 / 65536))).toNat = u at *
        refine go ?_
        exact ⟨rfl, [_], ⟨Res.tmp rfl, trivial⟩, L, ent, hf⟩
    · by_cases h8 : 256 ≤ x / 4294967296
      · refine go ?_
        refine WO.sv rfl ?_
        refine SV.shr rfl rfl (by decide) (shrN (x / 4294967296) 8 (by decide)) ?_
        rw [show (x / 4294967296) / 2 ^ 8 = x / 4294967296 / 256 from rfl]
        refine go ?_
        refine WO.sv rfl ?_
        refine SV.indexS (s := lenTab) (by kernel_rfl) rfl (by omega) (lenTab_get (show x / 4294967296 / 256 < 256 by omega)) ?_
        have hf := fin 40 (by decide) (by first | omega | (rw [show x / 2 ^ 40 = x / 4294967296 / 256 by rw [Nat.div_div_eq_div_mul]]; omega)) (by first | omega | (rw [show x / 2 ^ 40 = x / 4294967296 / 256 by rw [Nat.div_div_eq_div_mul]]; omega))
        rw [show x / 2 ^ 40 = x / 4294967296 / 256 by rw [Nat.div_div_eq_div_mul]] at hf
        have hu := (UInt8.ofNat (bl (x / 4294967296 / 256))).toNat_lt
        generalize (UInt8.ofNat (bl (x / 4294967296 / 256))).toNat = u at *
        refine go ?_
        exact ⟨rfl, [_], ⟨Res.tmp rfl, trivial⟩, L, ent, hf⟩
      · refine go ?_
        refine WO.sv rfl ?_
        refine SV.indexS (s := lenTab) (by kernel_rfl) rfl (by omega) (lenTab_get (show x / 4294967296 < 256 by omega)) ?_
        have hf := fin 32 (by decide) (by first | omega | (rw [show x / 2 ^ 32 = x / 4294967296 by rfl]; omega)) (by first | omega | (rw [show x / 2 ^ 32 = x / 4294967296 by rfl]; omega))
        rw [show x / 2 ^ 32 = x / 4294967296 by rfl] at hf
        have hu := (UInt8.ofNat (bl (x / 4294967296))).toNat_lt
        generalize (UInt8.ofNat (bl (x / 4294967296))).toNat = u at *
        refine go ?_
        exact ⟨rfl, [_], ⟨Res.tmp rfl, trivial⟩, L, ent, hf⟩
  · by_cases h16 : 65536 ≤ x
    · refine go ?_
      refine WO.sv rfl ?_
      refine SV.shr rfl rfl (by decide) (shrN (x) 16 (by decide)) ?_
      rw [show (x) / 2 ^ 16 = x / 65536 from rfl]
      by_cases h8 : 256 ≤ x / 65536
      · refine go ?_
        refine WO.sv rfl ?_
        refine SV.shr rfl rfl (by decide) (shrN (x / 65536) 8 (by decide)) ?_
        rw [show (x / 65536) / 2 ^ 8 = x / 65536 / 256 from rfl]
        refine go ?_
        refine WO.sv rfl ?_
        refine SV.indexS (s := lenTab) (by kernel_rfl) rfl (by omega) (lenTab_get (show x / 65536 / 256 < 256 by omega)) ?_
        have hf := fin 24 (by decide) (by first | omega | (rw [show x / 2 ^ 24 = x / 65536 / 256 by rw [Nat.div_div_eq_div_mul]]; omega)) (by first | omega | (rw [show x / 2 ^ 24 = x / 65536 / 256 by rw [Nat.div_div_eq_div_mul]]; omega))
        rw [show x / 2 ^ 24 = x / 65536 / 256 by rw [Nat.div_div_eq_div_mul]] at hf
        have hu := (UInt8.ofNat (bl (x / 65536 / 256))).toNat_lt
        generalize (UInt8.ofNat (bl (x / 65536 / 256))).toNat = u at *
        refine go ?_
        exact ⟨rfl, [_], ⟨Res.tmp rfl, trivial⟩, L, ent, hf⟩
      · refine go ?_
        refine WO.sv rfl ?_
        refine SV.indexS (s := lenTab) (by kernel_rfl) rfl (by omega) (lenTab_get (show x / 65536 < 256 by omega)) ?_
        have hf := fin 16 (by decide) (by first | omega | (rw [show x / 2 ^ 16 = x / 65536 by rfl]; omega)) (by first | omega | (rw [show x / 2 ^ 16 = x / 65536 by rfl]; omega))
        rw [show x / 2 ^ 16 = x / 65536 by rfl] at hf
        have hu := (UInt8.ofNat (bl (x / 65536))).toNat_lt
        generalize (UInt8.ofNat (bl (x / 65536))).toNat = u at *
        refine go ?_
        exact ⟨rfl, [_], ⟨Res.tmp rfl, trivial⟩, L, ent, hf⟩
    · by_cases h8 : 256 ≤ x
      · refine go ?_
        refine WO.sv rfl ?_
        refine SV.shr rfl rfl (by decide) (shrN (x) 8 (by decide)) ?_
        rw [show (x) / 2 ^ 8 = x / 256 from rfl]
        refine go ?_
        refine WO.sv rfl ?_
        refine SV.indexS (s := lenTab) (by kernel_rfl) rfl (by omega) (lenTab_get (show x / 256 < 256 by omega)) ?_
        have hf := fin 8 (by decide) (by first | omega | (rw [show x / 2 ^ 8 = x / 256 by rfl]; omega)) (by first | omega | (rw [show x / 2 ^ 8 = x / 256 by rfl]; omega))
        rw [show x / 2 ^ 8 = x / 256 by rfl] at hf
        have hu := (UInt8.ofNat (bl (x / 256))).toNat_lt
        generalize (UInt8.ofNat (bl (x / 256))).toNat = u at *
        refine go ?_
        exact ⟨rfl, [_], ⟨Res.tmp rfl, trivial⟩, L, ent, hf⟩
      · refine go ?_
        refine WO.sv rfl ?_
        refine SV.indexS (s := lenTab) (by kernel_rfl) rfl (by omega) (lenTab_get (show x < 256 by omega)) ?_
        have hf := fin 0 (by decide) (by first | omega | (rw [show x / 2 ^ 0 = x by rw [Nat.pow_zero, Nat.div_one]]; omega)) (by first | omega | (rw [show x / 2 ^ 0 = x by rw [Nat.pow_zero, Nat.div_one]]; omega))
        rw [show x / 2 ^ 0 = x by rw [Nat.pow_zero, Nat.div_one]] at hf
        have hu := (UInt8.ofNat (bl (x))).toNat_lt
        generalize (UInt8.ofNat (bl (x))).toNat = u at *
        refine go ?_
        exact ⟨rfl, [_], ⟨Res.tmp rfl, trivial⟩, L, ent, hf⟩
end Go.SL

/- Layer 8: marks: sealing a block. -/
namespace Go.SL
open Go.Proofs
set_option linter.unusedVariables false
set_option linter.unusedSimpArgs false
set_option maxRecDepth 10000
set_option maxHeartbeats 4000000

theorem lput_mid (C : List Value) : ∀ (A B B' : List Value), B'.length = B.length → lput (A ++ (B ++ C)) A.length B' = A ++ (B' ++ C)
  | [], [], [], _ => by cases C <;> rfl
  | [], x :: B, y :: B', h => by
    have ih := lput_mid C [] B B' (by simpa using h)
    simp only [List.nil_append, List.length_nil, List.cons_append, lput] at ih ⊢
    rw [ih]
  | a :: A, B, B', h => by
    have ih := lput_mid C A B B' h
    cases B' with
    | nil =>
      have : B = [] := List.eq_nil_of_length_eq_zero h.symm
      subst this
      rfl
    | cons y B' =>
      simp only [List.cons_append, List.length_cons, lput]
      rw [ih]; rfl
theorem set_two (A : List Value) (h : A.length = 17) (x y z : Value) : ((A ++ List.replicate 239 z).set (0 + ((17 : Nat) : Int).toNat * 1) x).set (0 + (((17 : Nat) : Int) + 1).toNat * 1) y = A ++ ([x, y] ++ List.replicate 237 z) := by
  show ((A ++ List.replicate 239 z).set 17 x).set 18 y = _
  rw [List.set_append_right _ _ (by omega), List.set_append_right _ _ (by omega), h]
  rfl
section
variable {P : Program} {ro : Option Nat} {f : Frm} {L : List HP} {d : Option Nat} {ty : TypeId} {ps : String} {af : Array Edge} {gu : Option (Nat × Bool)} {K : Value → List HP → Prop}
/-- A copy into the middle of a row. -/
theorem SV.copyM {tS tX e : Nat} {x y : Operand} {v : Value} {b off n cap m : Nat} {l ys : List Value} {T : TypeId} {fr : Nat × Nat} {M : Obj → List HP} (A B C : List Value) (hx : f.ev x = .slice (some ⟨b, off, none⟩) n cap) (hy : f.ev y = v) [he : TE P tS e 1] (src : SrcK P 1 v m ys L) (hc : ys.all isCell = true)
    [r : Wr L b (.cells l.toArray T fr) M] [rm : WrM M b] (hf : fr.2 ≤ fr.1 ∨ off + n ≤ fr.1) (hM : M (.cells l.toArray T fr) = L) (hl' : l = A ++ (B ++ C)) (ho : off = A.length) (hm : m = B.length) (hmn : m ≤ n) (hn : off + n ≤ l.length)
    (h : K (.int .i64 (m : Nat)) (M (.cells (A ++ (ys ++ C)).toArray T fr))) : SV P ro ⟨d, .call { callee := .builtin .copy, args := #[x, y], argTypes := #[tS, tX] }, ty, ps, af, gu⟩ f K L := by
  have hys := src.2.1
  have e1 : ys.take (min m n * 1) = ys := List.take_of_length_le (by rw [hys, Nat.min_eq_left hmn]; omega)
  refine SV.copy hx hy src hc (by omega) (by rw [Nat.mul_one]; exact hf) ?_ ?_
  · rw [e1, Nat.min_eq_left hmn, hl', ho, lput_mid C A B ys (by omega)]; exact h
  · intro e0
    rw [e1] at e0
    subst e0
    have : B = [] := List.eq_nil_of_length_eq_zero (by simp at hys; omega)
    subst this
    rw [Nat.min_eq_left hmn]
    rw [List.nil_append] at h
    rw [List.nil_append] at hl'
    rw [← hl', hM] at h
    exact h
end
attribute [local irreducible] W WO SV OW SW Tri Ent Tk Has Src SrcK DA DB RdS Own

/-- A sealed block. -/
def sealB (k : UInt8) (e s : Nat) (b : Byt) : Byt := mkB k e s ++ ([0, UInt8.ofNat b.length] ++ (b ++ (List.replicate (220 - b.length) 0 ++ mkB k e s)))
theorem sealB_len {k : UInt8} {e s : Nat} {b : Byt} (h : b.length ≤ 220) : (sealB k e s b).length = 256 := by simp [sealB]; omega
abbrev zr (n : Nat) : List Value := List.replicate n (u8V 0)
theorem mk_Seal (k : UInt8) (e s : Nat) (a : Option Addr) (c : Nat) (b : Byt) (L : List HP) (h1 : e < 18446744073709551616) (h2 : s < 18446744073709551616) (hb : b.length ≤ 9223372036854775807) (r : RdS 1 a b.length (b.map u8V) L) :
    TriE Tryz.prog 182 #[.agg (mkL k e s).toArray, .slice a b.length c] (fun v M =>
      (mkR k = false ∧ v = .tuple #[.slice none 0 0, .int .i64 2] ∧ M = L) ∨ (mkR k = true ∧ 220 < b.length ∧ v = .tuple #[.slice none 0 0, .int .i64 3] ∧ M = L) ∨
      (mkR k = true ∧ b.length ≤ 220 ∧ ∃ a' c', v = .tuple #[.slice a' (sealB k e s b).length c', .int .i64 0] ∧ SomeA a' (sealB k e s b).length ∧ (sealB k e s b).length ≤ c' ∧ M = OS a' c' (sealB k e s b) :: L)) L := by
  refine Tri.of (N := 45) (args := [.agg (mkL k e s).toArray, .slice a b.length c]) Tryz.func182 rfl rfl rfl ?_
  refine go ?_
  intro b2
  refine go ?_
  refine WO.callE (vs := [.agg (mkL k e s).toArray]) Tryz.func187 rfl rfl rfl rfl (mk_right k e s _) ?_
  rintro v M ⟨rfl, rfl⟩
  cases hk : mkR k
  · refine go ?_
    exact ⟨rfl, [_, _], ⟨Res.tmp rfl, Res.tmp rfl, trivial⟩, L, ent, .inl ⟨rfl, rfl, rfl⟩⟩
  by_cases hbig : 220 < b.length
  · refine go ?_
    exact ⟨rfl, [_, _], ⟨Res.tmp rfl, Res.tmp rfl, trivial⟩, L, ent, .inr (.inl ⟨rfl, hbig, rfl, rfl⟩)⟩
  refine go ?_
  refine WO.sv rfl ?_
  refine SV.makeSlice rfl (m := 256) rfl (by decide) (by decide) ?_
  intro b1
  refine go ?_
  refine WO.callE (vs := [.agg (mkL k e s).toArray]) Tryz.func210 rfl rfl rfl rfl (mk_lay k e s _ h1 h2) ?_
  rintro v M ⟨a3, c3, rfl, s3, rfl⟩
  have hml := mkB_len k e s
  have hsb : sealB k e s b = mkB k e s ++ ([0, UInt8.ofNat b.length] ++ (b ++ (List.replicate (220 - b.length) 0 ++ mkB k e s))) := rfl
  have hsl := sealB_len (k := k) (e := e) (s := s) (b := b) (by omega)
  have hlay := fun R => mk_lay k e s R h1 h2
  generalize sealB k e s b = sb at *
  generalize mkB k e s = mb at *
  refine WO.sv rfl ?_
  refine SV.copyM [] (zr 17) (zr 239) rfl rfl (RdS.srcK (OS.rd tk s3)) (by simp [u8V, isCell]) (.inl (Nat.le_refl _)) rfl ?_ rfl (by simp [hml]) (by omega) (by simp) ?_
  · exact (List.replicate_append_replicate (n := 17) (m := 239) (a := u8V 0)).symm
  rw [List.nil_append, hml]
  refine go ?_
  refine WO.sv rfl ?_
  refine SV.shr (z := 0) rfl rfl (by decide) (by show (b.length : Int).fdiv 256 = 0; rw [Int.fdiv_eq_ediv_of_nonneg _ (by decide)]; omega) ?_
  refine go ?_
  refine WO.sv rfl ?_
  refine SV.storeS (v := u8V 0) rfl rfl rfl (.inl (Nat.le_refl _)) (by simp [hml]) ?_
  refine go ?_
  refine WO.sv rfl ?_
  refine SV.storeS (v := .int .u8 (b.length : Nat)) rfl rfl rfl (.inl (Nat.le_refl _)) (by simp [hml]) ?_
  rw [show Value.int .u8 ((b.length : Nat) : Int) = u8V (UInt8.ofNat b.length) from by
    show _ = Value.int .u8 ((UInt8.ofNat b.length).toNat : Int)
    rw [UInt8.toNat_ofNat', Nat.mod_eq_of_lt (by omega)]]
  rw [show ((List.map u8V mb ++ zr 239).set (0 + ((17 : Nat) : Int).toNat * 1) (u8V 0)).set (0 + (((17 : Nat) : Int) + 1).toNat * 1) (u8V (UInt8.ofNat b.length)) = List.map u8V (mb ++ [0, UInt8.ofNat b.length]) ++ (zr b.length ++ zr (237 - b.length)) from by
    rw [List.replicate_append_replicate, show b.length + (237 - b.length) = 237 by omega, set_two _ (by simp [hml])]
    simp only [List.map_append, List.map_cons, List.map_nil, List.append_assoc]]
  refine go ?_
  refine WO.sv rfl ?_
  refine SV.cut (l := 19) (h := 256) rfl (cutAt.of rfl rfl) rfl (by decide) (by decide) ?_
  intro off' ho
  rw [ho (.inl (by decide))]
  refine go ?_
  refine WO.sv rfl ?_
  refine SV.copyM (List.map u8V (mb ++ [0, UInt8.ofNat b.length])) (zr b.length) (zr (237 - b.length)) rfl rfl (RdS.srcK rds) (by simp [u8V, isCell]) (.inl (Nat.le_refl _)) rfl rfl (by simp [hml]) (by simp) (by omega) (by simp [hml]; omega) ?_
  rw [show List.map u8V (mb ++ [0, UInt8.ofNat b.length]) ++ (List.map u8V b ++ zr (237 - b.length)) = List.map u8V (mb ++ [0, UInt8.ofNat b.length] ++ b ++ List.replicate (220 - b.length) 0) ++ (zr 17 ++ []) from by
    rw [show zr (237 - b.length) = zr (220 - b.length) ++ zr 17 by rw [List.replicate_append_replicate]; congr 1; omega]
    simp only [List.map_append, List.map_replicate, List.append_assoc, List.append_nil]]
  have hgl : (mb ++ [0, UInt8.ofNat b.length] ++ b ++ List.replicate (220 - b.length) 0).length = 239 := by simp [hml]; omega
  have hse : mb ++ [0, UInt8.ofNat b.length] ++ b ++ List.replicate (220 - b.length) 0 ++ mb = sb := by rw [hsb]; simp
  generalize mb ++ [0, UInt8.ofNat b.length] ++ b ++ List.replicate (220 - b.length) 0 = gb at *
  refine go ?_
  refine W.drawB #[0, 1, 0, 4, 15] [pts b2 (.cells [u8V k, .int .u64 e, .int .u64 s].toArray 223)] (pts b1 (.cells (List.map u8V gb ++ (zr 17 ++ [])).toArray 5) :: L) rfl (by kernel_rfl) (by kernel_rfl) (by kernel_rfl) ent ?_
  refine go ?_
  refine DB.q (v := .slice (some ⟨b1, 239, none⟩) 17 17) rfl rfl hl ?_ ?_
  · refine SV.cut (l := 239) (h := 256) rfl (cutAt.of rfl rfl) rfl (by decide) (by decide) ?_
    intro off' ho
    rw [ho (.inl (by decide))]
    exact eqq
  refine go ?_
  refine DB.callE (vs := [.agg (mkL k e s).toArray]) Tryz.func210 rfl rfl rfl rfl hl hl (hlay _) ?_
  rintro v M ⟨a4, c4, rfl, s4, rfl⟩
  refine ⟨[], pts b1 (.cells (List.map u8V gb ++ (zr 17 ++ [])).toArray 5) :: OS a4 c4 mb :: L, ent, ?_⟩
  refine go ?_
  refine DB.v rfl rfl rfl hl hl ?_
  refine SV.copyM (List.map u8V gb) (zr 17) [] rfl rfl (RdS.srcK (OS.rd tk s4)) (by simp [u8V, isCell]) (.inl (Nat.le_refl _)) rfl rfl (by simp [hgl]) (by simp [hml]) (by omega) (by simp [hgl]) ?_
  rw [show List.map u8V gb ++ (List.map u8V mb ++ []) = List.map u8V sb by rw [← hse, List.append_nil, List.map_append]]
  refine ⟨[], pts b1 (.cells (List.map u8V sb).toArray 5) :: L, ent, ?_⟩
  refine go ?_
  refine ⟨pts b1 (.cells (List.map u8V sb).toArray 5) :: L, ent, ?_⟩
  refine go ?_
  refine ⟨rfl, [_, _], ⟨Res.tmp rfl, Res.tmp rfl, trivial⟩, OS (some ⟨b1, 0, none⟩) 256 sb :: L, ?_, .inr (.inr ⟨rfl, by omega, some ⟨b1, 0, none⟩, 256, by rw [hsl]; rfl, fun _ => ⟨b1, rfl⟩, by omega, rfl⟩)⟩
  refine Ent.trans (ent_own (E := 5) (sz := 1) (n := 256) (by simp [hsl])) ?_
  unfold OS
  rw [hsl]
  exact Ent.refl _
end Go.SL

/- Layer 8: marks: whether two are one; parts of rows. -/
namespace Go.SL
open Go.Proofs
set_option linter.unusedVariables false
set_option linter.unusedSimpArgs false
set_option maxRecDepth 10000
set_option maxHeartbeats 4000000

/-- A part of a row. -/
theorem RdS.sub {n i k b off : Nat} {xs : List Value} {L : List HP} (r : RdS 1 (some ⟨b, off, none⟩) n xs L) (h : i + k ≤ n) : RdS 1 (some ⟨b, off + i, none⟩) k ((xs.drop i).take k) L := by
  have hx := r.len
  refine ⟨by simp; omega, fun _ => ⟨b, off + i, rfl⟩, fun b' off' e h0 q x => ?_⟩
  injection e with e
  injection e with e1 e2
  subst e1; subst e2
  obtain ⟨l, T, fr, q1, q2, q3⟩ := r.2.2 b off rfl (by omega) q x
  refine ⟨l, T, fr, q1, by omega, ?_⟩
  rw [Nat.mul_one] at q2 q3 ⊢
  rw [← q3, ← lsub_lsub l off n i k q2 h, lsub_eq, lsub_eq]

theorem eqMk (k k' : UInt8) (e s e' s' : Nat) (w : World) : (Op.equalIn 10000 223 (.agg (mkL k e s).toArray) (.agg (mkL k' e' s').toArray)).run Tryz.prog w = .ok (decide (k = k' ∧ e = e' ∧ s = s')) w := by
  have u5 := Tryz.underlying5
  have u22 := Tryz.underlying51
  have a5 := Tryz.isAgg5
  have a22 := Tryz.isAgg51
  have z5 := Tryz.sizeOf5
  have z22 := Tryz.sizeOf51
  have hS : Tryz.prog.underlying 223 = some (.struct (Tryz.prog.fieldsOf 223)) := by kernel_rfl
  have hp : Tryz.prog.stoodInHeld 223 = false := by kernel_rfl
  rw [show (10000 : Nat) = 9999 + 1 from rfl, run_equalIn_agg w 9999 223 _ _ hS hp]
  simp only [Program.fieldsOf, Tryz.underlying223, mkL, u8V]
  go_simp
  have hk : ((k.toNat : Int) = (k'.toNat : Int)) ↔ k = k' := by rw [← UInt8.toNat_inj]; omega
  have he : ((e : Int) = (e' : Int)) ↔ e = e' := by omega
  have hs : ((s : Int) = (s' : Int)) ↔ s = s' := by omega
  by_cases h1 : k = k' <;> by_cases h2 : e = e' <;> by_cases h3 : s = s' <;> simp [hk, he, hs, h1, h2, h3]
section
variable {ro : Option Nat} {f : Frm} {L : List HP} {d : Option Nat} {ty : TypeId} {ps : String} {af : Array Edge} {gu : Option (Nat × Bool)} {K : Value → List HP → Prop}
theorem SV.eqlMk {yt : TypeId} {x y : Operand} {k k' : UInt8} {e s e' s' : Nat} (hx : f.ev x = .agg (mkL k e s).toArray) (hy : f.ev y = .agg (mkL k' e' s').toArray) (h : K (.bool (decide (k = k' ∧ e = e' ∧ s = s'))) L) :
    SV Tryz.prog ro ⟨d, .binOp .eql 223 x y yt, ty, ps, af, gu⟩ f K L := by
  refine SV.bin hx hy (fun w => ?_) h
  rw [Sem.run_bind, run_eqGuard_agg w _ _ _ _ _ _ (by kernel_rfl), Result.andThen_ok, run_eql_struct, eqMk, Result.andThen_ok]
theorem SV.neqMk {yt : TypeId} {x y : Operand} {k k' : UInt8} {e s e' s' : Nat} (hx : f.ev x = .agg (mkL k e s).toArray) (hy : f.ev y = .agg (mkL k' e' s').toArray) (h : K (.bool (!decide (k = k' ∧ e = e' ∧ s = s'))) L) :
    SV Tryz.prog ro ⟨d, .binOp .neq 223 x y yt, ty, ps, af, gu⟩ f K L := by
  refine SV.bin hx hy (fun w => ?_) h
  rw [Sem.run_bind, run_eqGuard_agg w _ _ _ _ _ _ (by kernel_rfl), Result.andThen_ok, run_neq_struct, eqMk, Result.andThen_ok]
end
end Go.SL

/- Layer 8: marks: opening a block. -/
namespace Go.SL
open Go.Proofs
set_option linter.unusedVariables false
set_option linter.unusedSimpArgs false
set_option maxRecDepth 10000
set_option maxHeartbeats 4000000
attribute [local irreducible] W WO SV OW SW Tri Ent Tk Has Src SrcK DA DB RdS Own

/-- How many bytes a block says it has; the mark at its end; the bytes; whether it is sealed. -/
def opN (s : Byt) : Nat := (s.getD 17 0).toNat * 256 + (s.getD 18 0).toNat
def opT (s : Byt) : Byt := (s.drop 239).take 17
def opB (s : Byt) : Byt := (s.drop 19).take (opN s)
def opZ (s : Byt) : Byt := (s.drop (19 + opN s)).take (220 - opN s)
def opOk (s : Byt) : Bool :=
  mkR (s.getD 0 0) && decide (s.getD 0 0 = (opT s).getD 0 0 ∧ nbe s 1 8 = nbe (opT s) 1 8 ∧ nbe s 9 8 = nbe (opT s) 9 8) && decide (opN s ≤ 220) && decide (∀ x ∈ opZ s, x = 0)
theorem i64_or (a : Nat) (c : UInt8) (ha : a < 65536) : IntKind.wrap .i64 ((((((a * 256 : Nat) : Int)) % 2 ^ IntKind.bits .i64).toNat ||| (((c.toNat : Int)) % 2 ^ IntKind.bits .i64).toNat : Nat) : Int) = ((a * 256 + c.toNat : Nat) : Int) := by
  have hc := c.toNat_lt
  have h1 : (((a * 256 : Nat) : Int) % 2 ^ IntKind.bits .i64).toNat = 2 ^ 8 * a := by
    show (((a * 256 : Nat) : Int) % 18446744073709551616).toNat = _
    omega
  have h2 : ((c.toNat : Int) % 2 ^ IntKind.bits .i64).toNat = c.toNat := by
    show ((c.toNat : Int) % 18446744073709551616).toNat = _
    omega
  rw [h1, h2, ← Nat.two_pow_add_eq_or_of_lt (by omega)]
  rw [show ((2 ^ 8 * a + c.toNat : Nat) : Int) = ((a * 256 + c.toNat : Nat) : Int) by congr 1; omega]
  exact wI
theorem i64_shl8 (a : Nat) (ha : a < 65536) : IntKind.wrap .i64 ((a : Int) * 2 ^ (min (8 : Int).toNat (IntKind.bits .i64))) = ((a * 256 : Nat) : Int) := by
  have : (a : Int) * 2 ^ (min (8 : Int).toNat (IntKind.bits .i64)) = ((a * 256 : Nat) : Int) := by
    show (a : Int) * 256 = _
    omega
  rw [this]
  exact wI

theorem mk_Open (X : HP) (a : Option Addr) (c : Nat) (s : Byt) (R : List HP) (hb : s.length ≤ 9223372036854775807) (hcp : s.length ≤ c) (r : RdS 1 a s.length (s.map u8V) [X]) :
    TriE Tryz.prog 163 #[.slice a s.length c] (fun v M =>
      (s.length ≠ 256 ∧ v = .tuple #[.agg (mkL 0 0 0).toArray, .slice none 0 0, .int .i64 2] ∧ M = X :: R) ∨ (s.length = 256 ∧ opOk s = false ∧ v = .tuple #[.agg (mkL 0 0 0).toArray, .slice none 0 0, .int .i64 11] ∧ M = X :: R) ∨
      (s.length = 256 ∧ opOk s = true ∧ ∃ a' c', v = .tuple #[.agg (mkL (s.getD 0 0) (nbe s 1 8) (nbe s 9 8)).toArray, .slice a' (opB s).length c', .int .i64 0] ∧ SomeA a' (opB s).length ∧ M = OS a' c' (opB s) :: X :: R)) (X :: R) := by
  have rX : ∀ M, RdS 1 a s.length (s.map u8V) (X :: M) := fun M => RdS.ent ent r
  refine Tri.of (N := 52) (args := [.slice a s.length c]) Tryz.func163 rfl rfl rfl ?_
  refine go ?_
  intro b2
  by_cases h256 : s.length ≠ 256
  · refine go ?_
    exact ⟨rfl, [_, _, _], ⟨Res.cell rfl le0 nl, Res.tmp rfl, Res.tmp rfl, trivial⟩, X :: R, ent, .inl ⟨h256, rfl, rfl⟩⟩
  have h2 : s.length = 256 := Classical.not_not.1 h256
  clear h256
  obtain ⟨b, o, rfl⟩ := r.at (by omega)
  have hget : ∀ i, i < 256 → (s.map u8V)[i]? = some (u8V (s.getD i 0)) := fun i hi => by simp [show i < s.length by omega]
  have hc17 := (s.getD 17 0).toNat_lt
  have hc18 := (s.getD 18 0).toNat_lt
  have hread := fun M => mk_read b o s.length c s (X :: M) rfl (by omega) (by omega) (rX M)
  have hT : (opT s).length = s.length - 239 := by simp [opT]; omega
  have hread2 := fun M => mk_read b (o + 239) (s.length - 239) (c - 239) (opT s) (X :: M) hT.symm (by omega) (by omega) (by rw [h2, show 256 - 239 = 17 by decide]; have q := RdS.sub (i := 239) (k := 17) (rX M) (by omega); rw [← List.map_drop, ← List.map_take] at q; exact q)
  have hop : opOk s = (mkR (s.getD 0 0) && decide (s.getD 0 0 = (opT s).getD 0 0 ∧ nbe s 1 8 = nbe (opT s) 1 8 ∧ nbe s 9 8 = nbe (opT s) 9 8) && decide (opN s ≤ 220) && decide (∀ x ∈ opZ s, x = 0)) := rfl
  have hN : opN s ≤ 65535 := by unfold opN; omega
  have hnv : IntKind.wrap .i64 ((((((((s.getD 17 0).toNat * 256 : Nat) : Int)) % 2 ^ IntKind.bits .i64).toNat ||| ((((s.getD 18 0).toNat : Int)) % 2 ^ IntKind.bits .i64).toNat : Nat) : Int)) = ((opN s : Nat) : Int) := i64_or _ _ (by omega)
  have g17 := hget 17 (by decide)
  have g18 := hget 18 (by decide)
  generalize s.getD 17 0 = y17 at *
  generalize s.getD 18 0 = y18 at *
  generalize s.getD 0 0 = k0 at *
  generalize nbe s 1 8 = e1 at *
  generalize nbe s 9 8 = e2 at *
  generalize (opT s).getD 0 0 = k3 at *
  generalize nbe (opT s) 1 8 = e3 at *
  generalize nbe (opT s) 9 8 = e4 at *
  refine go ?_
  refine W.drawB #[0, 1, 0, 4, 12, 28, 60, 0, 128, 384, 896, 2044, 0, 4099, 16383] [X] (pts b2 (.cells [.int .u8 0, .int .u64 0, .int .u64 0].toArray 223) :: R) rfl (by kernel_rfl) (by kernel_rfl) (by kernel_rfl) ent ?_
  refine go ?_
  refine DB.callE (vs := [.slice (some ⟨b, o, none⟩) s.length c]) Tryz.func186 rfl rfl rfl rfl hl hl (hread _) ?_
  rintro v M ⟨rfl, rfl⟩
  refine ⟨[], pts b2 (.cells [.int .u8 0, .int .u64 0, .int .u64 0].toArray 223) :: R, ent, ?_⟩
  refine go ?_
  refine DB.q (v := u8V y17) rfl rfl hl (SV.loadR 17 rfl r (by omega) g17 eqq) ?_
  refine go ?_
  refine DB.q (v := .int .i64 ((y17.toNat * 256 : Nat) : Int)) rfl rfl hl (SV.shl rfl rfl (by decide) (i64_shl8 _ (by omega)) eqq) ?_
  refine go ?_
  refine DB.q (v := u8V y18) rfl rfl hl (SV.loadR 18 rfl r (by omega) g18 eqq) ?_
  refine go ?_
  refine DB.q (v := .int .i64 ((opN s : Nat) : Int)) rfl rfl hl (SV.bor rfl rfl hnv eqq) ?_
  refine go ?_
  refine DB.alloc rfl ?_
  intro b5
  refine go ?_
  refine DB.v rfl rfl rfl hl hl ?_
  refine SV.store rfl rfl cel rfl rfl rfl frz le0 nl ?_
  refine ⟨[], pts b5 (.cells [u8V k0, .int .u64 e1, .int .u64 e2].toArray 223) :: pts b2 (.cells [.int .u8 0, .int .u64 0, .int .u64 0].toArray 223) :: R, ent, ?_⟩
  refine go ?_
  refine ⟨X :: pts b5 (.cells [u8V k0, .int .u64 e1, .int .u64 e2].toArray 223) :: pts b2 (.cells [.int .u8 0, .int .u64 0, .int .u64 0].toArray 223) :: R, ent, ?_⟩
  refine go ?_
  refine W.drawB #[0, 1, 3, 7, 15, 15, 47, 111, 255, 511, 1023, 2047, 4095, 8191, 16383, 32767, 32767, 98303, 262143, 524287, 1048575, 2097151] [X, pts b5 (.cells [u8V k0, .int .u64 e1, .int .u64 e2].toArray 223)] (pts b2 (.cells [.int .u8 0, .int .u64 0, .int .u64 0].toArray 223) :: R) rfl (by kernel_rfl) (by kernel_rfl) (by kernel_rfl) ent ?_
  refine go ?_
  refine DB.callE (vs := [.agg (mkL k0 e1 e2).toArray]) Tryz.func187 rfl rfl rfl rfl hl hl (mk_right k0 e1 e2 _) ?_
  rintro v M ⟨rfl, rfl⟩
  refine ⟨[], pts b2 (.cells [.int .u8 0, .int .u64 0, .int .u64 0].toArray 223) :: R, ent, ?_⟩
  cases hR : mkR k0
  · refine go ?_
    refine ⟨X :: pts b5 (.cells [u8V k0, .int .u64 e1, .int .u64 e2].toArray 223) :: pts b2 (.cells [.int .u8 0, .int .u64 0, .int .u64 0].toArray 223) :: R, ent, ?_⟩
    refine go ?_
    exact ⟨rfl, [_, _, _], ⟨Res.cell rfl le0 nl, Res.tmp rfl, Res.tmp rfl, trivial⟩, X :: R, ent, .inr (.inl ⟨h2, by rw [hop]; rw [hR]; rfl, rfl, rfl⟩)⟩
  refine go ?_
  refine DB.q (v := .slice (some ⟨b, o + 239, none⟩) (s.length - 239) (c - 239)) rfl rfl hl ?_ ?_
  · refine SV.cut (l := 239) (h := s.length) rfl (cutAt.of rfl rfl) rfl (by omega) (by omega) ?_
    intro off' ho
    rw [ho (.inl (by omega))]
    exact eqq
  refine go ?_
  refine DB.callE (vs := [.slice (some ⟨b, o + 239, none⟩) (s.length - 239) (c - 239)]) Tryz.func186 rfl rfl rfl rfl hl hl (hread2 _) ?_
  rintro v M ⟨rfl, rfl⟩
  refine ⟨[], pts b2 (.cells [.int .u8 0, .int .u64 0, .int .u64 0].toArray 223) :: R, ent, ?_⟩
  refine go ?_
  refine DB.q (v := .bool (!decide (k0 = k3 ∧ e1 = e3 ∧ e2 = e4))) rfl rfl hl (SV.neqMk rfl rfl eqq) ?_
  by_cases heq : k0 = k3 ∧ e1 = e3 ∧ e2 = e4
  rotate_left
  · rw [decide_eq_false heq]
    rw [Bool.not_false]
    refine go ?_
    refine ⟨X :: pts b5 (.cells [u8V k0, .int .u64 e1, .int .u64 e2].toArray 223) :: pts b2 (.cells [.int .u8 0, .int .u64 0, .int .u64 0].toArray 223) :: R, ent, ?_⟩
    refine go ?_
    exact ⟨rfl, [_, _, _], ⟨Res.cell rfl le0 nl, Res.tmp rfl, Res.tmp rfl, trivial⟩, X :: R, ent, .inr (.inl ⟨h2, by rw [hop]; rw [decide_eq_false heq, Bool.and_false]; rfl, rfl, rfl⟩)⟩
  rw [decide_eq_true heq]
  rw [Bool.not_true]
  by_cases hle : 220 < opN s
  · refine go ?_
    refine ⟨X :: pts b5 (.cells [u8V k0, .int .u64 e1, .int .u64 e2].toArray 223) :: pts b2 (.cells [.int .u8 0, .int .u64 0, .int .u64 0].toArray 223) :: R, ent, ?_⟩
    refine go ?_
    exact ⟨rfl, [_, _, _], ⟨Res.cell rfl le0 nl, Res.tmp rfl, Res.tmp rfl, trivial⟩, X :: R, ent, .inr (.inl ⟨h2, by rw [hop]; rw [decide_eq_false (show ¬ opN s ≤ 220 by omega), Bool.and_false]; rfl, rfl, rfl⟩)⟩
  have hZl : (opZ s).length = 239 - (19 + opN s) := by simp [opZ]; omega
  have hBl : (opB s).length = opN s := by simp [opB]; omega
  have hzero : ∀ M, TriE Tryz.prog 188 #[.slice (some ⟨b, o + (19 + opN s), none⟩) (239 - (19 + opN s)) (c - (19 + opN s))] (fun v M' => v = .bool (decide (∀ x ∈ opZ s, x = 0)) ∧ M' = X :: M) (X :: M) := fun M => by
    have q := RdS.sub (i := 19 + opN s) (k := 220 - opN s) (rX M) (by omega)
    rw [← List.map_drop, ← List.map_take] at q
    have q2 := mk_zero b (o + (19 + opN s)) (c - (19 + opN s)) (opZ s) (X :: M) (by omega) (by omega) (by rw [hZl, show 239 - (19 + opN s) = 220 - opN s by omega]; exact q)
    rw [hZl] at q2
    exact q2
  have hclone : ∀ M, TriE Tryz.prog 80 #[.slice (some ⟨b, o + 19, none⟩) (19 + opN s - 19) (c - 19)] (fun v M' => ∃ a' c', v = .slice a' (opB s).length c' ∧ SomeA a' (opB s).length ∧ M' = OS a' c' (opB s) :: X :: M) (X :: M) := fun M => by
    have q := RdS.sub (i := 19) (k := opN s) (rX M) (by omega)
    rw [← List.map_drop, ← List.map_take] at q
    have q2 := sl_CloneB (some ⟨b, o + 19, none⟩) (c - 19) (opB s) (X :: M) (by omega) (by rw [hBl]; exact q)
    rw [show 19 + opN s - 19 = (opB s).length by omega]
    exact q2
  clear hnv
  generalize opN s = n at *
  refine go ?_
  refine DB.q (v := .slice (some ⟨b, o + (19 + n), none⟩) (239 - (19 + n)) (c - (19 + n))) rfl rfl hl ?_ ?_
  · refine SV.cut (l := 19 + n) (h := 239) rfl (cutAt.of rfl (by omega)) (cutAt.of rfl rfl) (by omega) (by omega) ?_
    intro off' ho
    rw [ho (.inl (by omega)), Nat.mul_one]
    exact eqq
  refine go ?_
  refine DB.callE (vs := [.slice (some ⟨b, o + (19 + n), none⟩) (239 - (19 + n)) (c - (19 + n))]) Tryz.func188 rfl rfl rfl rfl hl hl (hzero _) ?_
  rintro v M ⟨rfl, rfl⟩
  refine ⟨[], pts b2 (.cells [.int .u8 0, .int .u64 0, .int .u64 0].toArray 223) :: R, ent, ?_⟩
  by_cases hz : ∀ x ∈ opZ s, x = 0
  rotate_left
  · rw [decide_eq_false hz]
    refine go ?_
    refine ⟨X :: pts b5 (.cells [u8V k0, .int .u64 e1, .int .u64 e2].toArray 223) :: pts b2 (.cells [.int .u8 0, .int .u64 0, .int .u64 0].toArray 223) :: R, ent, ?_⟩
    refine go ?_
    exact ⟨rfl, [_, _, _], ⟨Res.cell rfl le0 nl, Res.tmp rfl, Res.tmp rfl, trivial⟩, X :: R, ent, .inr (.inl ⟨h2, by rw [hop]; rw [decide_eq_false hz, Bool.and_false], rfl, rfl⟩)⟩
  rw [decide_eq_true hz]
  refine go ?_
  refine ⟨X :: pts b5 (.cells [u8V k0, .int .u64 e1, .int .u64 e2].toArray 223) :: pts b2 (.cells [.int .u8 0, .int .u64 0, .int .u64 0].toArray 223) :: R, ent, ?_⟩
  refine go ?_
  refine W.drawB #[0, 0, 0, 4, 14, 30, 63, 127, 255] [X, pts b5 (.cells [u8V k0, .int .u64 e1, .int .u64 e2].toArray 223)] (pts b2 (.cells [.int .u8 0, .int .u64 0, .int .u64 0].toArray 223) :: R) rfl (by kernel_rfl) (by kernel_rfl) (by kernel_rfl) ent ?_
  refine go ?_
  refine DB.q (v := .slice (some ⟨b, o + 19, none⟩) (19 + n - 19) (c - 19)) rfl rfl hl ?_ ?_
  · refine SV.cut (l := 19) (h := 19 + n) rfl (cutAt.of rfl rfl) (cutAt.of rfl (by omega)) (by omega) (by omega) ?_
    intro off' ho
    rw [ho (.inl (by omega)), Nat.mul_one]
    exact eqq
  refine go ?_
  refine DB.callE (vs := [.slice (some ⟨b, o + 19, none⟩) (19 + n - 19) (c - 19)]) Tryz.func80 rfl rfl rfl rfl hl hl (hclone _) ?_
  rintro v M ⟨a9, c9, rfl, s9, rfl⟩
  refine ⟨[], OS a9 c9 (opB s) :: pts b2 (.cells [.int .u8 0, .int .u64 0, .int .u64 0].toArray 223) :: R, ent, ?_⟩
  refine go ?_
  refine DB.v rfl rfl rfl hl hl ?_
  refine SV.store rfl rfl cel rfl rfl rfl frz le0 nl ?_
  refine ⟨[], OS a9 c9 (opB s) :: pts b2 (.cells [u8V k0, .int .u64 e1, .int .u64 e2].toArray 223) :: R, ent, ?_⟩
  refine go ?_
  refine ⟨X :: OS a9 c9 (opB s) :: pts b2 (.cells [u8V k0, .int .u64 e1, .int .u64 e2].toArray 223) :: R, ent, ?_⟩
  refine go ?_
  exact ⟨rfl, [_, _, _], ⟨Res.cell rfl le0 nl, Res.tmp rfl, Res.tmp rfl, trivial⟩, OS a9 c9 (opB s) :: X :: R, ent, .inr (.inr ⟨h2, by rw [hop, hR, decide_eq_true heq, decide_eq_true (show n ≤ 220 by omega), decide_eq_true hz]; rfl, a9, c9, rfl, s9, rfl⟩)⟩
end Go.SL

/- Layer 8: marks: the document's sealed block. -/
namespace Go.SL
open Go.Proofs
set_option linter.unusedVariables false
set_option linter.unusedSimpArgs false
set_option maxRecDepth 10000
set_option maxHeartbeats 4000000
attribute [local irreducible] W WO SV OW SW Tri Ent Tk Has Src SrcK DA DB RdS Own

theorem u8len {n : Nat} (h : n ≤ 220) : Value.int .u8 ((n : Nat) : Int) = u8V (UInt8.ofNat n) := by
  show _ = Value.int .u8 ((UInt8.ofNat n).toNat : Int)
  rw [UInt8.toNat_ofNat', Nat.mod_eq_of_lt (by omega)]
end Go.SL

/- Layer 1: the document's numbers, walked. -/
namespace Go.SL
open Go.Proofs
set_option linter.unusedVariables false
set_option linter.unusedSimpArgs false
set_option maxRecDepth 10000
set_option maxHeartbeats 4000000
attribute [local irreducible] W WO SV OW SW Tri Ent Tk Has Src SrcK DA DB RdS Own

abbrev liL (b : Byt) (bad : Nat) : List Value := [strV b, .int .i64 bad]
theorem u8_256 (n : Nat) : Value.int .u8 ((n : Int) % 256) = u8V (UInt8.ofNat n) := by
  show _ = Value.int .u8 _
  rw [UInt8.toNat_ofNat']
  congr 1
theorem u8_lit (n : Nat) (h : n < 256) : Value.int .u8 (n : Int) = u8V (UInt8.ofNat n) := by
  show _ = Value.int .u8 _
  rw [UInt8.toNat_ofNat']
  congr 1
  omega
end Go.SL

/- Layer 1: the program lays numbers, walked. -/
namespace Go.SL
open Go.Proofs
set_option linter.unusedVariables false
set_option linter.unusedSimpArgs false
set_option maxRecDepth 10000
set_option maxHeartbeats 4000000
attribute [local irreducible] W WO SV OW SW Tri Ent Tk Has Src SrcK DA DB RdS Own

def u64V (v : Nat) : Value := .int .u64 v
theorem nby_len {v n : Nat} (hv : v < 18446744073709551616) (h1 : v < 2 ^ n) (h2 : n ≠ 0 → 2 ^ (n - 1) ≤ v) : nby v = (n + 7) / 8 := by
  have e : ∀ m, (256 : Nat) ^ m = 2 ^ (8 * m) := fun m => by rw [Nat.pow_mul]
  refine nby_of hv ?_ fun h => ?_
  · rw [e]
    exact Nat.lt_of_lt_of_le h1 (Nat.pow_le_pow_right (by decide) (by omega))
  · rw [e]
    exact Nat.le_trans (Nat.pow_le_pow_right (by decide) (by omega)) (h2 (by omega))
theorem shr8 (v n j : Nat) (z : Int) (h : z = 8 * ((n : Int) - 1 - (j : Int))) (hj : j < n) (hn : n ≤ 8) : (v : Int).fdiv (2 ^ (min z.toNat (IntKind.bits .u64))) = ((v / 256 ^ (n - 1 - j) : Nat) : Int) := by
  have e : min z.toNat (IntKind.bits .u64) = 8 * (n - 1 - j) := by subst h; show min _ 64 = _; omega
  have e2 : (256 : Nat) ^ (n - 1 - j) = 2 ^ (8 * (n - 1 - j)) := by rw [Nat.pow_mul]
  rw [e, e2, Int.fdiv_eq_ediv_of_nonneg _ (by exact_mod_cast Nat.zero_le _)]
  exact_mod_cast rfl
theorem l1_Put (a1 : Option Addr) (c1 : Nat) (b : Byt) (a2 : Option Addr) (c2 : Nat) (vs : List Nat) (L : List HP) (hb : b.length ≤ 100000) (hl : vs.length ≤ 1000) (hv : ∀ v ∈ vs, v < 18446744073709551616)
    (r1 : RdS 1 a1 b.length (b.map u8V) L) (r2 : RdS 1 a2 vs.length (vs.map u64V) L) :
    TriE Tryz.prog 185 #[.slice a1 b.length c1, .slice a2 vs.length c2] (fun r M => ∃ a' c', r = .slice a' (b ++ vs.flatMap encN).length c' ∧ SomeA a' (b ++ vs.flatMap encN).length ∧ M = OS a' c' (b ++ vs.flatMap encN) :: L) L := by
  have hlen : ∀ i, (b ++ (vs.take i).flatMap encN).length ≤ b.length + 9 * i := by
    intro i
    rw [List.length_append]
    have : ∀ l : List Nat, (∀ v ∈ l, v < 18446744073709551616) → (l.flatMap encN).length ≤ 9 * l.length := by
      intro l
      induction l with
      | nil => intro _; simp
      | cons x l ih =>
        intro h
        rw [List.flatMap_cons, List.length_append, List.length_cons]
        have := encN_len (h x (List.mem_cons_self ..))
        have := ih fun v hv => h v (List.mem_cons_of_mem _ hv)
        omega
    have h1 := this (vs.take i) fun v h => hv v (List.mem_of_mem_take h)
    have h2 : (vs.take i).length ≤ i := List.length_take_le _ _
    omega
  refine Tri.of (N := 45) (args := [.slice a1 b.length c1, .slice a2 vs.length c2]) Tryz.func185 rfl rfl rfl ?_
  unfold OS
  refine go ?_
  refine WO.sv rfl ?_
  refine SV.lit0 ?_
  intro b0
  refine go ?_
  refine WO.ent (ent_own (sz := 1) (n := 0) rfl) ?_
  refine WO.sv rfl ?_
  refine SV.append rfl rfl rfl tk (RdS.src r1) (by rw [r1.len]) (by simp [u8V, isCell]) (by omega) rfl ?_
  intro a0 c0 ha0
  rw [Nat.zero_add, List.nil_append] at *
  refine go ?_
  refine W.loopS 17592186012576 rfl (fun q : Nat × Option Addr × Nat => [(15, .int .i64 (q.1 : Int)), (5, .slice q.2.1 (b ++ (vs.take q.1).flatMap encN).length q.2.2)])
    (fun q => Own 5 1 (.slice q.2.1 (b ++ (vs.take q.1).flatMap encN).length q.2.2) (b ++ (vs.take q.1).flatMap encN).length ((b ++ (vs.take q.1).flatMap encN).map u8V) :: L)
    (fun q => q.1 ≤ vs.length ∧ SomeA q.2.1 (b ++ (vs.take q.1).flatMap encN).length) (fun q => vs.length - q.1) (0, a0, c0) ?_ ?_ (Ent.app ?_) ?_
  · refine ⟨rfl, ?_, trivial⟩
    show _ = Value.slice a0 (b ++ (vs.take 0).flatMap encN).length c0
    rw [List.take_zero, List.flatMap_nil, List.append_nil]; rfl
  · refine ⟨Nat.zero_le _, ?_⟩
    show SomeA a0 (b ++ (vs.take 0).flatMap encN).length
    rw [List.take_zero, List.flatMap_nil, List.append_nil]; exact ha0
  · dsimp only
    rw [List.take_zero, List.flatMap_nil, List.append_nil]; exact ent
  rintro ⟨i, a, c⟩ bg ⟨hi, hsa⟩
  dsimp only at hi hsa ⊢
  have hle := hlen i
  by_cases h9 : i < vs.length
  · have hvi := hv vs[i] (List.getElem_mem h9)
    have hg : (vs.map u64V)[i]? = some (u64V vs[i]) := by rw [List.getElem?_map, List.getElem?_eq_getElem h9]; rfl
    have hs : b ++ (vs.take (i + 1)).flatMap encN = (b ++ (vs.take i).flatMap encN) ++ encN vs[i] := by
      rw [List.take_succ_eq_append_getElem h9, List.flatMap_append, List.append_assoc]
      simp
    generalize vs[i] = v at *
    generalize b ++ (vs.take i).flatMap encN = out at *
    obtain ⟨b2, o2, rfl⟩ := r2.at (by omega)
    refine go ?_
    refine WO.sv rfl ?_
    refine SV.loadR i rfl (RdS.ent ent r2) (by omega) hg ?_
    refine go ?_
    refine WO.callE (vs := [.int .u64 v]) Tryz.func209 rfl rfl rfl rfl (bi_Len64 v _ hvi) ?_
    rintro r M ⟨n, rfl, g1, g2, g3, rfl⟩
    have hnb : ((n : Int) + 8 - 1) / 8 = ((nby v : Nat) : Int) := by rw [nby_len hvi g1 g2]; omega
    have h8 := (nby_spec hvi).2.2
    refine go ?_
    rw [hnb]
    have hbl : (bytesN v (nby v)).length = nby v := bytesN_len _ _
    have henc : encN v = [UInt8.ofNat (nby v)] ++ bytesN v (nby v) := rfl
    have htk : ∀ j, j < nby v → (bytesN v (nby v)).take (j + 1) = (bytesN v (nby v)).take j ++ [UInt8.ofNat (v / 256 ^ (nby v - 1 - j))] := fun j hj => bytesN_take hj
    rw [henc] at hs
    clear henc
    generalize bytesN v (nby v) = bs at *
    generalize nby v = m at *
    refine go ?_
    refine WO.sv rfl ?_
    refine SV.lit rfl rfl rfl parts rfl nl ?_
    intro b3
    rw [u8_lit m (by omega)]
    refine go ?_
    refine WO.sv rfl ?_
    refine SV.append rfl rfl rfl tk (RdS.src (RdS.all (sz := 1) (n := 1) rfl)) rfl rfl (by omega) rfl ?_
    intro a4 c4 ha4
    refine go ?_
    refine W.loopS 8793945539104 rfl (fun q : Nat × Option Addr × Nat => [(9, .int .i64 ((m : Int) - 1 - (q.1 : Int))), (5, .slice q.2.1 (out.length + 1 + q.1) q.2.2)])
      (fun q => Own 5 1 (.slice q.2.1 (out.length + 1 + q.1) q.2.2) (out.length + 1 + q.1) ((out ++ [UInt8.ofNat m] ++ bs.take q.1).map u8V) :: L)
      (fun q => q.1 ≤ m ∧ SomeA q.2.1 (out.length + 1 + q.1)) (fun q => m - q.1) (0, a4, c4) ⟨?_, rfl, trivial⟩ ⟨Nat.zero_le _, fun _ => ha4 (by omega)⟩ (Ent.app ?_) ?_
    · show Value.int _ _ = Value.int _ _
      congr 1; dsimp only; omega
    · dsimp only
      rw [List.take_zero, List.append_nil, List.map_append]
      exact ent
    rintro ⟨j, a5, c5⟩ bg2 ⟨hj, hsa5⟩
    dsimp only at hj hsa5 ⊢
    by_cases h7 : j < m
    · have ht := htk j h7
      refine go ?_
      refine WO.sv rfl ?_
      refine SV.shr rfl rfl (by omega) (shr8 v m j _ (by omega) h7 h8) ?_
      refine WO.sv rfl ?_
      refine SV.convInt rfl (u8_of _) ?_
      refine WO.sv rfl ?_
      refine SV.lit rfl rfl rfl parts rfl nl ?_
      intro b6
      refine WO.sv rfl ?_
      refine SV.append rfl rfl rfl tk (RdS.src (RdS.all (sz := 1) (n := 1) rfl)) rfl rfl (by omega) rfl ?_
      intro a7 c7 ha7
      refine go ?_
      refine ⟨(j + 1, a7, c7), ⟨?_, rfl, trivial⟩, rfl, ⟨by dsimp only; omega, fun _ => ha7 (by omega)⟩, by dsimp only; omega, Ent.app ?_⟩
      · show Value.int _ _ = Value.int _ _
        congr 1; dsimp only; omega
      · dsimp only
        rw [ht, ← List.append_assoc, List.map_append (l₂ := [UInt8.ofNat (v / 256 ^ (m - 1 - j))])]
        exact ent
    · obtain rfl : j = m := by omega
      have e1 : bs.take j = bs := List.take_of_length_le (by omega)
      have e2 : (b ++ (vs.take (i + 1)).flatMap encN).length = out.length + 1 + j := by rw [hs]; simp; omega
      rw [e1] at *
      refine go ?_
      refine ⟨(i + 1, a5, c5), ⟨rfl, ?_, trivial⟩, rfl, ⟨by dsimp only; omega, ?_⟩, by dsimp only; omega, Ent.app ?_⟩
      · dsimp only; rw [e2]; rfl
      · dsimp only; rw [e2]; exact hsa5
      · dsimp only
        rw [e2, hs, ← List.append_assoc]
        exact ent
  · obtain rfl : i = vs.length := by omega
    rw [List.take_length] at *
    refine go ?_
    exact ⟨rfl, [_], ⟨Res.tmp rfl, trivial⟩, _, Ent.refl _, a, c, rfl, hsa, rfl⟩
end Go.SL

/- Layer 8: marks: the plain law: what is sealed reads as it was. -/
namespace Go.SL
set_option linter.unusedVariables false
set_option linter.unusedSimpArgs false

theorem nbe_of {s : Byt} {i v : Nat} (hv : v < 18446744073709551616) (h : ∀ j, j < 8 → s.getD (i + j) 0 = byteOf v j) : ∀ k, k ≤ 8 → nbe s i k = v / 2 ^ (8 * (8 - k))
  | 0, _ => by
    rw [nbe, Nat.div_eq_of_lt]
    exact hv
  | k + 1, hk => by
    have ih := nbe_of hv h k (by omega)
    rw [nbe, ih, h k (by omega), byteOf, UInt8.toNat_ofNat']
    rw [show 8 * (8 - k) = 8 * (7 - k) + 8 by omega, show 8 * (8 - (k + 1)) = 8 * (7 - k) by omega, Nat.pow_add, ← Nat.div_div_eq_div_mul]
    have : (2 : Nat) ^ 8 = 256 := by decide
    rw [this]
    omega
theorem beN_get (v j : Nat) (h : j < 8) (q : Byt) : (beN v 8 ++ q).getD j 0 = byteOf v j := by
  rw [List.getD_eq_getElem?_getD, List.getElem?_append_left (by simpa using h)]
  simp [beN, h]
theorem getD_app {p q : Byt} (i : Nat) : (p ++ q).getD (p.length + i) 0 = q.getD i 0 := by
  rw [List.getD_eq_getElem?_getD, List.getD_eq_getElem?_getD, List.getElem?_append_right (by omega), show p.length + i - p.length = i by omega]
theorem mkB_read (k : UInt8) (e s : Nat) (q : Byt) (he : e < 18446744073709551616) (hs : s < 18446744073709551616) :
    (mkB k e s ++ q).getD 0 0 = k ∧ nbe (mkB k e s ++ q) 1 8 = e ∧ nbe (mkB k e s ++ q) 9 8 = s := by
  refine ⟨by simp [mkB], ?_, ?_⟩
  · rw [nbe_of he (fun j hj => ?_) 8 (Nat.le_refl _)]
    · simp
    · have := getD_app (p := [k]) (q := beN e 8 ++ (beN s 8 ++ q)) j
      rw [beN_get e j hj] at this
      rw [← this]
      simp [mkB]
  · rw [nbe_of hs (fun j hj => ?_) 8 (Nat.le_refl _)]
    · simp
    · have := getD_app (p := [k] ++ beN e 8) (q := beN s 8 ++ q) j
      rw [beN_get s j hj] at this
      rw [← this]
      simp [mkB]
theorem sealB_opN {k : UInt8} {e s : Nat} {b : Byt} (h : b.length ≤ 220) : opN (sealB k e s b) = b.length := by
  have h1 := getD_app (p := mkB k e s) (q := [0, UInt8.ofNat b.length] ++ (b ++ (List.replicate (220 - b.length) 0 ++ mkB k e s))) 0
  have h2 := getD_app (p := mkB k e s) (q := [0, UInt8.ofNat b.length] ++ (b ++ (List.replicate (220 - b.length) 0 ++ mkB k e s))) 1
  rw [mkB_len] at h1 h2
  unfold opN sealB
  rw [show (17 : Nat) = 17 + 0 from rfl, h1, show (18 : Nat) = 17 + 1 from rfl, h2]
  simp [Nat.mod_eq_of_lt (show b.length < 256 by omega)]
theorem sealB_opT {k : UInt8} {e s : Nat} {b : Byt} (h : b.length ≤ 220) : opT (sealB k e s b) = mkB k e s := by
  have e1 : sealB k e s b = (mkB k e s ++ [0, UInt8.ofNat b.length] ++ b ++ List.replicate (220 - b.length) 0) ++ mkB k e s := by simp [sealB]
  have e2 : (mkB k e s ++ [0, UInt8.ofNat b.length] ++ b ++ List.replicate (220 - b.length) 0).length = 239 := by simp; omega
  unfold opT
  rw [e1, ← e2, List.drop_left, List.take_of_length_le (by simp)]
theorem sealB_drop {k : UInt8} {e s : Nat} {b : Byt} : (sealB k e s b).drop 19 = b ++ (List.replicate (220 - b.length) 0 ++ mkB k e s) := by
  have e1 : sealB k e s b = (mkB k e s ++ [0, UInt8.ofNat b.length]) ++ (b ++ (List.replicate (220 - b.length) 0 ++ mkB k e s)) := by simp [sealB]
  have e2 : (mkB k e s ++ [0, UInt8.ofNat b.length]).length = 19 := by simp
  rw [e1, ← e2, List.drop_left]
theorem sealB_opB {k : UInt8} {e s : Nat} {b : Byt} (h : b.length ≤ 220) : opB (sealB k e s b) = b := by
  rw [opB, sealB_opN h, sealB_drop, List.take_left]
theorem sealB_opZ {k : UInt8} {e s : Nat} {b : Byt} (h : b.length ≤ 220) : opZ (sealB k e s b) = List.replicate (220 - b.length) 0 := by
  have e1 : (List.replicate (220 - b.length) (0 : UInt8)).length = 220 - b.length := List.length_replicate
  rw [opZ, sealB_opN h, ← List.drop_drop, sealB_drop, List.drop_left]
  rw [List.take_append_of_le_length (by omega), List.take_of_length_le (by omega)]
theorem sealB_ok {k : UInt8} {e s : Nat} {b : Byt} (h : b.length ≤ 220) (he : e < 18446744073709551616) (hs : s < 18446744073709551616) (hk : mkR k = true) : opOk (sealB k e s b) = true := by
  obtain ⟨a1, a2, a3⟩ := mkB_read k e s ([0, UInt8.ofNat b.length] ++ (b ++ (List.replicate (220 - b.length) 0 ++ mkB k e s))) he hs
  obtain ⟨b1, b2, b3⟩ := mkB_read k e s [] he hs
  rw [List.append_nil] at b1 b2 b3
  have c1 : (sealB k e s b).getD 0 0 = k := a1
  have c2 : nbe (sealB k e s b) 1 8 = e := a2
  have c3 : nbe (sealB k e s b) 9 8 = s := a3
  unfold opOk
  rw [sealB_opT h, sealB_opN h, sealB_opZ h, c1, c2, c3, b1, b2, b3, hk, decide_eq_true (show k = k ∧ e = e ∧ s = s from ⟨rfl, rfl, rfl⟩), decide_eq_true h, decide_eq_true (fun x hx => (List.mem_replicate.1 hx).2)]
  rfl
end Go.SL
