/- Layer 34: the plain law of ways: those who are reached first, first. -/
import Derived.KernelRfl
import Derived.Test.YtlcahhfbhjbgoaaSlG
import Derived.Test.YtlcahhfbhjbgoaaSlK
import Derived.Test.YtlcahhfbhjbgoaaSlM
import Derived.Test.YtlcahhfbhjbgoaaSlN
import Derived.Test.YtlcahhfbhjbgoaaSlO
import Derived.Test.YtlcahhfbhjbgoaaSlP
import Derived.Test.YtlcahhfbhjbgoaaTy
namespace Go.SL
set_option linter.unusedVariables false
set_option linter.unusedSimpArgs false
set_option linter.unusedSectionVars false

/-- A way of so many meetings. -/
inductive Wk (m : Nat → Nat → Bool) : Nat → Nat → Nat → Prop
  | here (a : Nat) : Wk m a a 0
  | step {a b c k : Nat} : Wk m a b k → m b c = true → Wk m a c (k + 1)
theorem Wk.trans {m : Nat → Nat → Bool} {a b c j k : Nat} (x : Wk m a b j) (y : Wk m b c k) : Wk m a c (j + k) := by
  induction y with
  | here => exact x
  | step _ h ih => exact ih.step h
theorem Wk.one {m : Nat → Nat → Bool} {a b : Nat} (h : m a b = true) : Wk m a b 1 := (Wk.here a).step h
theorem Wk.front {m : Nat → Nat → Bool} {a c k : Nat} (x : Wk m a c (k + 1)) : ∃ b, m a b = true ∧ Wk m b c k := by
  induction k generalizing c with
  | zero =>
    cases x with
    | step y h => cases y; exact ⟨c, h, .here c⟩
  | succ k ih =>
    cases x with
    | step y h =>
      obtain ⟨b, h1, h2⟩ := ih y
      exact ⟨b, h1, h2.step h⟩
theorem Wk.turn {m : Nat → Nat → Bool} (sym : ∀ a b, m a b = m b a) {a b k : Nat} (x : Wk m a b k) : Wk m b a k := by
  induction x with
  | here => exact .here _
  | step y h ih =>
    rename_i b c k
    have := (Wk.one (m := m) (a := c) (b := b) (by rw [sym]; exact h)).trans ih
    rw [Nat.add_comm] at this
    exact this
/-- By how many meetings one is reached (-1: by none). -/
def Dist (m : Nat → Nat → Bool) (a b : Nat) (f : Int) : Prop := (f = -1 ∧ ∀ k, ¬Wk m a b k) ∨ (0 ≤ f ∧ Wk m a b f.toNat ∧ ∀ k : Nat, Wk m a b k → f ≤ k)
theorem Dist.same {m : Nat → Nat → Bool} {a b : Nat} {f g : Int} (x : Dist m a b f) (y : Dist m a b g) : f = g := by
  rcases x with ⟨x1, x2⟩ | ⟨x1, x2, x3⟩ <;> rcases y with ⟨y1, y2⟩ | ⟨y1, y2, y3⟩
  · omega
  · exact absurd y2 (x2 _)
  · exact absurd x2 (y2 _)
  · have := x3 _ y2; have := y3 _ x2; omega
theorem Dist.turn {m : Nat → Nat → Bool} (sym : ∀ a b, m a b = m b a) {a b : Nat} {f : Int} (x : Dist m a b f) : Dist m b a f := by
  rcases x with ⟨x1, x2⟩ | ⟨x1, x2, x3⟩
  · exact .inl ⟨x1, fun k h => x2 k (h.turn sym)⟩
  · exact .inr ⟨x1, x2.turn sym, fun k h => x3 k (h.turn sym)⟩
theorem Dist.nn {m : Nat → Nat → Bool} {a b : Nat} {f : Int} (x : Dist m a b f) : 0 ≤ f ↔ ∃ k, Wk m a b k := by
  rcases x with ⟨x1, x2⟩ | ⟨x1, x2, x3⟩
  · exact ⟨fun h => by omega, fun ⟨k, h⟩ => absurd h (x2 k)⟩
  · exact ⟨fun _ => ⟨_, x2⟩, fun _ => x1⟩
theorem Dist.self (m : Nat → Nat → Bool) (a : Nat) : Dist m a a 0 := .inr ⟨Int.le_refl _, .here a, fun k _ => by omega⟩
theorem Dist.ge {m : Nat → Nat → Bool} {a b : Nat} {f : Int} (x : Dist m a b f) : -1 ≤ f := by
  rcases x with ⟨x1, _⟩ | ⟨x1, _⟩ <;> omega
theorem Dist.zero {m : Nat → Nat → Bool} {a b : Nat} {f : Int} (x : Dist m a b f) : f = 0 ↔ a = b := by
  constructor
  · intro h
    subst h
    rcases x with ⟨x1, _⟩ | ⟨_, x2, _⟩
    · omega
    · cases x2; rfl
  · intro h
    subst h
    exact x.same (.self m a)
theorem Dist.one {m : Nat → Nat → Bool} (irr : ∀ a, m a a = false) {a b : Nat} {f : Int} (x : Dist m a b f) : f = 1 ↔ m a b = true := by
  constructor
  · intro h
    subst h
    rcases x with ⟨x1, _⟩ | ⟨_, x2, _⟩
    · omega
    · have x2 : Wk m a b (0 + 1) := x2
      cases x2 with
      | step y h => cases y; exact h
  · intro h
    have hne : f ≠ 0 := fun e => by
      have := x.zero.1 e
      subst this
      rw [irr] at h; cases h
    rcases x with ⟨x1, x2⟩ | ⟨x1, x2, x3⟩
    · exact absurd (Wk.one h) (x2 _)
    · have := x3 1 (Wk.one h); omega

abbrev Bt := Nat × Nat × Nat
/-- What is added from one on. -/
def bfsIn (m : Nat → Nat → Bool) (v h : Nat) (l : List Bt) : Nat → List Bt
  | 0 => l
  | c + 1 => if m v c = true ∧ c ∉ (bfsIn m v h l c).map (·.1) then bfsIn m v h l c ++ [(c, v, h)] else bfsIn m v h l c
structure Bf (m : Nat → Nat → Bool) (n a : Nat) (l : List Bt) (h c : Nat) : Prop where
  start : l[0]? = some (a, a, 0)
  lt : ∀ (i : Nat) x, l[i]? = some x → x.1 < n
  uniq : ∀ (i j : Nat) x y, l[i]? = some x → l[j]? = some y → x.1 = y.1 → i = j
  par : ∀ (i : Nat) x, l[i]? = some x → 0 < i → x.2.2 < i ∧ (x.2.2 < h ∨ x.2.2 = h ∧ x.1 < c) ∧ ∃ y, l[x.2.2]? = some y ∧ y.1 = x.2.1 ∧ m y.1 x.1 = true
  mono : ∀ (i j : Nat) x y, 0 < i → i < j → l[i]? = some x → l[j]? = some y → x.2.2 < y.2.2 ∨ x.2.2 = y.2.2 ∧ x.1 < y.1
  full : ∀ (i : Nat) x, l[i]? = some x → ∀ b, m x.1 b = true → (i < h ∨ i = h ∧ b < c) → ∃ (j : Nat) (y : Bt), l[j]? = some y ∧ y.1 = b ∧ (j = 0 ∨ y.2.2 ≤ i)
  hle : h ≤ l.length
theorem app_get {α : Type} {l : List α} {z x : α} {i : Nat} : (l ++ [z])[i]? = some x ↔ l[i]? = some x ∨ i = l.length ∧ x = z := by
  rw [List.getElem?_append]
  split
  · rename_i h
    exact ⟨.inl, fun q => q.resolve_right fun r => by omega⟩
  · rename_i h
    have hn : l[i]? = none := List.getElem?_eq_none (by omega)
    rw [hn]
    by_cases e : i = l.length
    · subst e; simp [eq_comm]
    · rw [List.getElem?_eq_none (by simp; omega)]
      simp [e]
theorem Bf.begin {m : Nat → Nat → Bool} {n a : Nat} (ha : a < n) : Bf m n a [(a, a, 0)] 0 0 := by
  have one : ∀ (i : Nat) x, ([(a, a, 0)] : List Bt)[i]? = some x → i = 0 ∧ x = (a, a, 0) := by
    intro i x h
    cases i with
    | zero => exact ⟨rfl, by simpa [eq_comm] using h⟩
    | succ i => simp at h
  refine ⟨rfl, ?_, ?_, ?_, ?_, ?_, Nat.zero_le _⟩
  · intro i x h; obtain ⟨_, rfl⟩ := one i x h; exact ha
  · intro i j x y h1 h2 _; obtain ⟨rfl, _⟩ := one i x h1; obtain ⟨rfl, _⟩ := one j y h2; rfl
  · intro i x h1 h2; obtain ⟨rfl, _⟩ := one i x h1; omega
  · intro i j x y h1 h2 h3 h4; obtain ⟨rfl, _⟩ := one i x h3; omega
  · intro i x h b _ h2; omega
theorem Bf.step {m : Nat → Nat → Bool} {n a h c : Nat} {l : List Bt} {t : Bt} (bf : Bf m n a l h c) (ht : l[h]? = some t) (hc : c < n) :
    Bf m n a (if m t.1 c = true ∧ c ∉ l.map (·.1) then l ++ [(c, t.1, h)] else l) h (c + 1) := by
  obtain ⟨b0, b1, b2, b3, b4, b5, b6⟩ := bf
  have hh : h < l.length := (List.getElem?_eq_some_iff.1 ht).1
  by_cases q : m t.1 c = true ∧ c ∉ l.map (·.1)
  · rw [if_pos q]
    refine ⟨?_, ?_, ?_, ?_, ?_, ?_, by simp; omega⟩
    · exact app_get.2 (.inl b0)
    · intro i x g
      rcases app_get.1 g with g | ⟨_, rfl⟩
      · exact b1 i x g
      · exact hc
    · intro i j x y g1 g2 e
      rcases app_get.1 g1 with g1 | ⟨i1, rfl⟩ <;> rcases app_get.1 g2 with g2 | ⟨i2, rfl⟩
      · exact b2 i j x y g1 g2 e
      · exact absurd (List.mem_map.2 ⟨x, List.mem_of_getElem? g1, e⟩) q.2
      · exact absurd (List.mem_map.2 ⟨y, List.mem_of_getElem? g2, e.symm⟩) q.2
      · omega
    · intro i x g hi
      rcases app_get.1 g with g | ⟨i1, rfl⟩
      · obtain ⟨p1, p2, y, p3, p4⟩ := b3 i x g hi
        exact ⟨p1, by omega, y, app_get.2 (.inl p3), p4⟩
      · exact ⟨by dsimp only; omega, .inr ⟨rfl, by dsimp only; omega⟩, t, app_get.2 (.inl ht), rfl, q.1⟩
    · intro i j x y hi hj g1 g2
      rcases app_get.1 g1 with g1 | ⟨i1, rfl⟩
      · rcases app_get.1 g2 with g2 | ⟨i2, rfl⟩
        · exact b4 i j x y hi hj g1 g2
        · have := (b3 i x g1 hi).2.1
          dsimp only
          omega
      · rcases app_get.1 g2 with g2 | ⟨i2, rfl⟩
        · have := (List.getElem?_eq_some_iff.1 g2).1; omega
        · omega
    · intro i x g b hb hi
      rcases app_get.1 g with g | ⟨i1, rfl⟩
      · by_cases e : i < h ∨ i = h ∧ b < c
        · obtain ⟨j, y, p1, p2⟩ := b5 i x g b hb e
          exact ⟨j, y, app_get.2 (.inl p1), p2⟩
        · obtain rfl : i = h := by omega
          obtain rfl : b = c := by omega
          exact ⟨l.length, (b, t.1, i), app_get.2 (.inr ⟨rfl, rfl⟩), rfl, .inr (Nat.le_refl _)⟩
      · omega
  · rw [if_neg q]
    refine ⟨b0, b1, b2, ?_, b4, ?_, b6⟩
    · intro i x g hi
      obtain ⟨p1, p2, p3⟩ := b3 i x g hi
      exact ⟨p1, by omega, p3⟩
    · intro i x g b hb hi
      by_cases e : i < h ∨ i = h ∧ b < c
      · exact b5 i x g b hb e
      · obtain rfl : i = h := by omega
        obtain rfl : b = c := by omega
        obtain rfl : x = t := by rw [g] at ht; exact Option.some.inj ht
        have hm : b ∈ l.map (·.1) := Classical.byContradiction fun z => q ⟨hb, z⟩
        obtain ⟨y, y1, y2⟩ := List.mem_map.1 hm
        obtain ⟨j, hj⟩ := List.getElem?_of_mem y1
        refine ⟨j, y, hj, y2, ?_⟩
        by_cases j0 : j = 0
        · exact .inl j0
        · have := (b3 j y hj (by omega)).2.1
          right; omega
theorem Bf.inner {m : Nat → Nat → Bool} {n a h : Nat} {l : List Bt} {t : Bt} (bf : Bf m n a l h 0) (ht : l[h]? = some t) : ∀ c, c ≤ n → Bf m n a (bfsIn m t.1 h l c) h c ∧ (bfsIn m t.1 h l c)[h]? = some t
  | 0, _ => ⟨bf, ht⟩
  | c + 1, hc => by
    obtain ⟨g1, g2⟩ := Bf.inner bf ht c (by omega)
    refine ⟨g1.step g2 (by omega), ?_⟩
    unfold bfsIn
    split
    · exact app_get.2 (.inl g2)
    · exact g2
theorem Bf.next {m : Nat → Nat → Bool} {n a h : Nat} {l : List Bt} (hm : ∀ i k, m i k = true → k < n) (bf : Bf m n a l h n) (hh : h < l.length) : Bf m n a l (h + 1) 0 := by
  obtain ⟨b0, b1, b2, b3, b4, b5, b6⟩ := bf
  refine ⟨b0, b1, b2, ?_, b4, ?_, by omega⟩
  · intro i x g hi
    obtain ⟨p1, p2, p3⟩ := b3 i x g hi
    exact ⟨p1, by omega, p3⟩
  · intro i x g b hb hi
    have := hm _ _ hb
    exact b5 i x g b hb (by omega)
theorem nodup_lt : ∀ (n : Nat) (l : List Nat), l.Nodup → (∀ x ∈ l, x < n) → l.length ≤ n
  | 0, l, _, h => by
    cases l with
    | nil => simp
    | cons x l => exact absurd (h x (by simp)) (by omega)
  | n + 1, l, d, h => by
    have q := nodup_lt n (l.erase n) (d.erase n) (fun x hx => by
      have h1 := h x (List.mem_of_mem_erase hx)
      have h2 := (d.mem_erase_iff.1 hx).1
      omega)
    by_cases e : n ∈ l
    · have q2 := List.length_erase_of_mem e; omega
    · rw [List.erase_of_not_mem e] at q; omega
theorem Bf.nodup {m : Nat → Nat → Bool} {n a h c : Nat} {l : List Bt} (bf : Bf m n a l h c) : (l.map (·.1)).Nodup := by
  rw [List.nodup_iff_pairwise_ne, List.pairwise_iff_getElem]
  intro i j hi hj hij e
  simp only [List.getElem_map] at e
  simp only [List.length_map] at hi hj
  have := bf.uniq i j _ _ (List.getElem?_eq_getElem hi) (List.getElem?_eq_getElem hj) e
  omega
theorem Bf.len {m : Nat → Nat → Bool} {n a h c : Nat} {l : List Bt} (bf : Bf m n a l h c) : l.length ≤ n := by
  have := nodup_lt n _ bf.nodup (fun x hx => by
    obtain ⟨y, y1, rfl⟩ := List.mem_map.1 hx
    obtain ⟨j, hj⟩ := List.getElem?_of_mem y1
    exact bf.lt j y hj)
  simpa using this
/-- Who is at a place, and by which place. -/
def vx (l : List Bt) (i : Nat) : Nat := (l.getD i (0, 0, 0)).1
def pix (l : List Bt) (i : Nat) : Nat := (l.getD i (0, 0, 0)).2.2
theorem at_vx {l : List Bt} {i : Nat} {x : Bt} (h : l[i]? = some x) : vx l i = x.1 ∧ pix l i = x.2.2 := by
  unfold vx pix; rw [List.getD_eq_getElem?_getD, h]; exact ⟨rfl, rfl⟩
theorem get_of {l : List Bt} {i : Nat} (h : i < l.length) : ∃ x, l[i]? = some x ∧ vx l i = x.1 ∧ pix l i = x.2.2 := ⟨_, List.getElem?_eq_getElem h, at_vx (List.getElem?_eq_getElem h)⟩
/-- The places of a way. -/
def ich (l : List Bt) (i : Nat) : List Nat := if h : pix l i < i then ich l (pix l i) ++ [i] else [i]
termination_by i
theorem ich_pos {l : List Bt} {i : Nat} (h : pix l i < i) : ich l i = ich l (pix l i) ++ [i] := by rw [ich, dif_pos h]
theorem ich_zero (l : List Bt) : ich l 0 = [0] := by rw [ich, dif_neg (by omega)]
theorem ich_len (l : List Bt) (i : Nat) : 1 ≤ (ich l i).length := by
  rw [ich]; split <;> simp
section
variable {m : Nat → Nat → Bool} {n a : Nat} {l : List Bt} (bf : Bf m n a l l.length 0)
include bf
theorem Bf.pix_lt {i : Nat} (h0 : 0 < i) (h : i < l.length) : pix l i < i := by
  obtain ⟨x, x1, x2, x3⟩ := get_of h
  rw [x3]; exact (bf.par i x x1 h0).1
theorem Bf.pos : 0 < l.length := (List.getElem?_eq_some_iff.1 bf.start).1
theorem Bf.vx0 : vx l 0 = a := (at_vx bf.start).1
theorem Bf.edge {i : Nat} (h0 : 0 < i) (h : i < l.length) : m (vx l (pix l i)) (vx l i) = true := by
  obtain ⟨x, x1, x2, x3⟩ := get_of h
  obtain ⟨_, _, y, y1, y2, y3⟩ := bf.par i x x1 h0
  rw [x3, (at_vx y1).1, x2]; exact y3
theorem Bf.mono' {i j : Nat} (h0 : 0 < i) (h : i ≤ j) (hj : j < l.length) : pix l i ≤ pix l j := by
  by_cases e : i = j
  · subst e; exact Nat.le_refl _
  · obtain ⟨x, x1, x2, x3⟩ := get_of (show i < l.length by omega)
    obtain ⟨y, y1, y2, y3⟩ := get_of hj
    have := bf.mono i j x y h0 (by omega) x1 y1
    omega
theorem Bf.inj {i j : Nat} (hi : i < l.length) (hj : j < l.length) (e : vx l i = vx l j) : i = j := by
  obtain ⟨x, x1, x2, _⟩ := get_of hi
  obtain ⟨y, y1, y2, _⟩ := get_of hj
  exact bf.uniq i j x y x1 y1 (by omega)
theorem Bf.out {i b : Nat} (hi : i < l.length) (h : m (vx l i) b = true) : ∃ j, j < l.length ∧ vx l j = b ∧ (j = 0 ∨ pix l j ≤ i) := by
  obtain ⟨x, x1, x2, _⟩ := get_of hi
  obtain ⟨j, y, y1, y2, y3⟩ := bf.full i x x1 b (by rw [← x2]; exact h) (.inl hi)
  refine ⟨j, (List.getElem?_eq_some_iff.1 y1).1, (at_vx y1).1.trans y2, ?_⟩
  rw [(at_vx y1).2]; exact y3
theorem Bf.ich_mono : ∀ (j i : Nat), i ≤ j → j < l.length → (ich l i).length ≤ (ich l j).length := by
  intro j
  induction j using Nat.strongRecOn with
  | ind j ih =>
    intro i hij hj
    by_cases h0 : i = 0
    · subst h0; rw [ich_zero]; exact ich_len l j
    · have p1 := bf.pix_lt (show 0 < i by omega) (by omega)
      have p2 := bf.pix_lt (show 0 < j by omega) hj
      rw [ich_pos p1, ich_pos p2, List.length_append, List.length_append]
      have := ih (pix l j) p2 (pix l i) (bf.mono' (by omega) hij hj) (by omega)
      simp only [List.length_cons, List.length_nil]
      omega
theorem Bf.reach {k x : Nat} (w : Wk m a x k) : ∃ i, i < l.length ∧ vx l i = x ∧ (ich l i).length ≤ k + 1 := by
  induction k generalizing x with
  | zero =>
    cases w
    exact ⟨0, bf.pos, bf.vx0, by rw [ich_zero]; simp⟩
  | succ k ih =>
    cases w with
    | step y h =>
      obtain ⟨i, h1, h2, h3⟩ := ih y
      subst h2
      obtain ⟨j, j1, j2, j3⟩ := bf.out h1 h
      refine ⟨j, j1, j2, ?_⟩
      by_cases j0 : j = 0
      · subst j0; rw [ich_zero]; simp
      · rw [ich_pos (bf.pix_lt (by omega) j1), List.length_append]
        have := bf.ich_mono i (pix l j) (j3.resolve_left j0) h1
        simp only [List.length_cons, List.length_nil]
        omega
theorem Bf.way (i : Nat) : i < l.length → Wk m a (vx l i) ((ich l i).length - 1) := by
  induction i using Nat.strongRecOn with
  | ind i ih =>
    intro hi
    by_cases h0 : i = 0
    · subst h0; rw [ich_zero, bf.vx0]; exact .here a
    · have p := bf.pix_lt (show 0 < i by omega) hi
      have := (ih _ p (by omega)).step (bf.edge (by omega) hi)
      rw [ich_pos p, List.length_append]
      have hl := ich_len l (pix l i)
      rw [show (ich l (pix l i)).length + [i].length - 1 = (ich l (pix l i)).length - 1 + 1 by simp only [List.length_cons, List.length_nil]; omega]
      exact this
theorem Bf.dist {i : Nat} (hi : i < l.length) : Dist m a (vx l i) ((ich l i).length - 1 : Nat) := by
  refine .inr ⟨by omega, by rw [Int.toNat_natCast]; exact bf.way i hi, fun k w => ?_⟩
  obtain ⟨j, j1, j2, j3⟩ := bf.reach w
  obtain rfl := bf.inj j1 hi j2
  omega
theorem Bf.none {b : Nat} (h : b ∉ l.map (·.1)) : Dist m a b (-1) := by
  refine .inl ⟨rfl, fun k w => h ?_⟩
  obtain ⟨i, h1, h2, _⟩ := bf.reach w
  obtain ⟨x, x1, x2, _⟩ := get_of h1
  exact List.mem_map.2 ⟨x, List.mem_of_getElem? x1, by rw [← x2, h2]⟩
theorem Bf.place {b : Nat} (h : b ∈ l.map (·.1)) : ∃ i, i < l.length ∧ vx l i = b := by
  obtain ⟨y, y1, y2⟩ := List.mem_map.1 h
  obtain ⟨j, hj⟩ := List.getElem?_of_mem y1
  exact ⟨j, (List.getElem?_eq_some_iff.1 hj).1, (at_vx hj).1.trans y2⟩
theorem Bf.ich_last (i : Nat) (hi : i < l.length) : (ich l i).getD ((ich l i).length - 1) 0 = i := by
  rw [ich]
  split
  · simp
  · rfl
/-- What a way's places are. -/
theorem Bf.ich_at (i : Nat) : i < l.length → ∀ j, j < (ich l i).length → (ich l i).getD j 0 ≤ i ∧ (ich l ((ich l i).getD j 0)).length = j + 1 ∧ (0 < j → pix l ((ich l i).getD j 0) = (ich l i).getD (j - 1) 0 ∧ 0 < (ich l i).getD j 0) := by
  induction i using Nat.strongRecOn with
  | ind i ih =>
    intro hi j hj
    by_cases h0 : i = 0
    · subst h0
      rw [ich_zero] at hj ⊢
      obtain rfl : j = 0 := by simpa using hj
      refine ⟨Nat.le_refl _, ?_, fun h => by omega⟩
      show (ich l 0).length = _
      rw [ich_zero]; rfl
    · have p := bf.pix_lt (show 0 < i by omega) hi
      have hp := ich_pos p
      rw [hp, List.length_append, List.length_singleton] at hj
      by_cases e : j < (ich l (pix l i)).length
      · obtain ⟨q1, q2, q3⟩ := ih _ p (by omega) j e
        have e1 : (ich l i).getD j 0 = (ich l (pix l i)).getD j 0 := by rw [hp]; simp [List.getD_eq_getElem?_getD, List.getElem?_append, e]
        have e2 : (ich l i).getD (j - 1) 0 = (ich l (pix l i)).getD (j - 1) 0 := by rw [hp]; simp [List.getD_eq_getElem?_getD, List.getElem?_append, show j - 1 < (ich l (pix l i)).length by omega]
        rw [e1, e2]
        exact ⟨by omega, q2, q3⟩
      · obtain rfl : j = (ich l (pix l i)).length := by omega
        have e1 : (ich l i).getD (ich l (pix l i)).length 0 = i := by rw [hp]; simp [List.getD_eq_getElem?_getD, List.getElem?_append]
        rw [e1]
        have hl := ich_len l (pix l i)
        refine ⟨Nat.le_refl _, by rw [hp]; simp, fun _ => ⟨?_, by omega⟩⟩
        have e2 : (ich l i).getD ((ich l (pix l i)).length - 1) 0 = (ich l (pix l i)).getD ((ich l (pix l i)).length - 1) 0 := by
          rw [hp]; simp [List.getD_eq_getElem?_getD, List.getElem?_append, show (ich l (pix l i)).length - 1 < (ich l (pix l i)).length by omega]
        rw [e2, bf.ich_last _ (by omega)]
/-- Among those who are as near to the end the way's is reached first. -/
theorem Bf.first {i : Nat} (hi : i < l.length) (f : Nat) (hf : (ich l i).length = f + 1) : ∀ k j u, k + j = f → u < l.length → (ich l u).length = j + 1 → Wk m (vx l u) (vx l i) k → (ich l i).getD j 0 ≤ u := by
  intro k
  induction k with
  | zero =>
    intro j u hk hu hd w
    obtain rfl : j = f := by omega
    have e : vx l u = vx l i := by
      generalize vx l u = p at w
      generalize vx l i = q at w
      cases w; rfl
    obtain rfl := bf.inj hu hi e
    have := bf.ich_last u hu
    rw [hf] at this
    rw [show j + 1 - 1 = j from rfl] at this
    omega
  | succ k ih =>
    intro j u hk hu hd w
    obtain ⟨c, c1, c2⟩ := w.front
    obtain ⟨u', u1, u2, u3⟩ := bf.out hu c1
    subst u2
    have hdist : f ≤ (ich l u').length - 1 + k := by
      obtain ⟨z, z1, z2, z3⟩ := bf.reach ((bf.way u' u1).trans c2)
      obtain rfl := bf.inj z1 hi z2
      omega
    have hne : u' ≠ 0 := by
      intro e
      subst e
      rw [ich_zero] at hdist
      simp at hdist
      omega
    have p := bf.pix_lt (show 0 < u' by omega) u1
    have hm := bf.ich_mono u (pix l u') (u3.resolve_left hne) hu
    have hl : (ich l u').length = (ich l (pix l u')).length + 1 := by rw [ich_pos p]; simp
    have h1 := ih (j + 1) u' (by omega) u1 (by omega) c2
    obtain ⟨q1, q2, q3⟩ := bf.ich_at i hi (j + 1) (by omega)
    obtain ⟨q4, q5⟩ := q3 (by omega)
    have h2 := bf.mono' q5 h1 u1
    rw [q4] at h2
    have h3 := u3.resolve_left hne
    rw [show j + 1 - 1 = j from rfl] at h2
    omega
/-- A way is the least one. -/
theorem Bf.least {i : Nat} (hi : i < l.length) {f j c : Nat} (hf : (ich l i).length = f + 1) (hj : j + 1 ≤ f) (hm : m (vx l ((ich l i).getD j 0)) c = true) (hc : c < vx l ((ich l i).getD (j + 1) 0)) : ¬Wk m c (vx l i) (f - j - 1) := by
  intro w
  obtain ⟨a1, a2, _⟩ := bf.ich_at i hi j (by omega)
  obtain ⟨b1, b2, b3⟩ := bf.ich_at i hi (j + 1) (by omega)
  obtain ⟨b4, b5⟩ := b3 (by omega)
  rw [show j + 1 - 1 = j from rfl] at b4
  obtain ⟨u', u1, u2, u3⟩ := bf.out (show (ich l i).getD j 0 < l.length by omega) hm
  subst u2
  have hdist : f ≤ (ich l u').length - 1 + (f - j - 1) := by
    obtain ⟨z, z1, z2, z3⟩ := bf.reach ((bf.way u' u1).trans w)
    obtain rfl := bf.inj z1 hi z2
    omega
  have hl1 := ich_len l u'
  have hne : u' ≠ 0 := by
    intro e
    subst e
    rw [ich_zero] at hdist
    simp at hdist
    omega
  have p := bf.pix_lt (show 0 < u' by omega) u1
  have h3 := u3.resolve_left hne
  have hm := bf.ich_mono ((ich l i).getD j 0) (pix l u') h3 (by omega)
  have hl : (ich l u').length = (ich l (pix l u')).length + 1 := by rw [ich_pos p]; simp
  have h1 := bf.first hi f hf (f - j - 1) (j + 1) u' (by omega) u1 (by omega) w
  by_cases e : (ich l i).getD (j + 1) 0 = u'
  · rw [e] at hc; omega
  · obtain ⟨x, x1, x2, x3⟩ := get_of (show (ich l i).getD (j + 1) 0 < l.length by omega)
    obtain ⟨y, y1, y2, y3⟩ := get_of u1
    have := bf.mono _ _ x y b5 (by omega) x1 y1
    omega
end
end Go.SL

/- Layer 34: the plain law of the document's table of ways. -/
namespace Go.SL
set_option linter.unusedVariables false
set_option linter.unusedSimpArgs false
set_option linter.unusedSectionVars false

/-- No more than by way of the first ones. -/
def Vt (m : Nat → Nat → Bool) : Nat → Nat → Nat → Int
  | 0, i, k => if i = k then 0 else if m i k = true then 1 else 99
  | t + 1, i, k => min (Vt m t i k) (Vt m t i t + Vt m t t k)
theorem Vt_nn (m : Nat → Nat → Bool) : ∀ t i k, 0 ≤ Vt m t i k
  | 0, i, k => by unfold Vt; split; · omega
                  · split <;> omega
  | t + 1, i, k => by
    have := Vt_nn m t i k; have := Vt_nn m t i t; have := Vt_nn m t t k
    unfold Vt; omega
theorem Vt_self (m : Nat → Nat → Bool) (i : Nat) : ∀ t, Vt m t i i = 0
  | 0 => by unfold Vt; rw [if_pos rfl]
  | t + 1 => by
    have := Vt_self m i t; have := Vt_nn m t i t; have := Vt_nn m t t i
    unfold Vt; omega
theorem Vt_mono (m : Nat → Nat → Bool) (i k : Nat) : ∀ t, Vt m t i k ≤ Vt m 0 i k
  | 0 => Int.le_refl _
  | t + 1 => by
    have := Vt_mono m i k t
    conv => lhs; unfold Vt
    omega
theorem Vt_tri (m : Nat → Nat → Bool) : ∀ t i j k, j < t → Vt m t i k ≤ Vt m t i j + Vt m t j k
  | 0, i, j, k, h => by omega
  | t + 1, i, j, k, h => by
    have e : ∀ x y, Vt m (t + 1) x y = min (Vt m t x y) (Vt m t x t + Vt m t t y) := fun x y => rfl
    rw [e, e, e]
    have z := Vt_self m t t
    by_cases q : j = t
    · subst q
      omega
    · have a1 := Vt_tri m t i j k (by omega)
      have a2 := Vt_tri m t i j t (by omega)
      have a3 := Vt_tri m t t j k (by omega)
      have a4 := Vt_nn m t t j
      have a5 := Vt_nn m t j t
      omega
theorem Vt_walk {m : Nat → Nat → Bool} {n : Nat} (hm : ∀ i k, m i k = true → i < n) {i k j : Nat} (w : Wk m i k j) : Vt m n i k ≤ j := by
  induction w with
  | here => rw [Vt_self]; omega
  | step w h ih =>
    rename_i b c j
    have h1 := Vt_tri m n i b c (hm _ _ h)
    have h2 := Vt_mono m b c n
    have h3 : Vt m 0 b c ≤ 1 := by
      unfold Vt
      split <;> first | omega | (split <;> first | omega | contradiction)
    omega
def gd (l : List Int) (i k : Nat) : Int := l.getD (16 * i + k) 0
theorem gd_set {l : List Int} {i k i' k' : Nat} {v : Int} (hl : l.length = 256) (hi : i < 16) (hk : k < 16) (hk' : k' < 16) : gd (l.set (16 * i + k) v) i' k' = if i' = i ∧ k' = k then v else gd l i' k' := by
  unfold gd
  simp only [List.getD_eq_getElem?_getD, List.getElem?_set]
  by_cases h : 16 * i + k = 16 * i' + k'
  · have h1 : i' = i ∧ k' = k := by omega
    rw [if_pos h, if_pos h1, if_pos (by omega)]
    rfl
  · have h1 : ¬(i' = i ∧ k' = k) := by omega
    rw [if_neg h, if_neg h1]
abbrev Lx (i k i' k' : Nat) : Prop := i' < i ∨ i' = i ∧ k' < k
/-- What is so all the while: ways of that length; none below what is known of them. -/
structure Fw (m : Nat → Nat → Bool) (n t : Nat) (l : List Int) : Prop where
  len : l.length = 256
  lo : ∀ i k, i < n → k < n → 0 ≤ gd l i k ∧ gd l i k ≤ 99
  wk : ∀ i k, i < n → k < n → gd l i k < 99 → Wk m i k (gd l i k).toNat
  hi : ∀ i k, i < n → k < n → gd l i k ≤ Vt m t i k
/-- How far the round is. -/
def FwAt (m : Nat → Nat → Bool) (n t i k : Nat) (l : List Int) : Prop := Fw m n t l ∧ ∀ i' k', i' < n → k' < n → Lx i k i' k' → gd l i' k' ≤ Vt m (t + 1) i' k'
theorem FwAt.begin {m : Nat → Nat → Bool} {n t : Nat} {l : List Int} (f : Fw m n t l) : FwAt m n t 0 0 l := ⟨f, fun i' k' _ _ h => by omega⟩
theorem FwAt.row {m : Nat → Nat → Bool} {n t i : Nat} {l : List Int} (f : FwAt m n t i n l) : FwAt m n t (i + 1) 0 l := ⟨f.1, fun i' k' h1 h2 h => f.2 i' k' h1 h2 (by omega)⟩
theorem FwAt.done {m : Nat → Nat → Bool} {n t : Nat} {l : List Int} (f : FwAt m n t n 0 l) : Fw m n (t + 1) l := ⟨f.1.len, f.1.lo, f.1.wk, fun i k h1 h2 => f.2 i k h1 h2 (by omega)⟩
theorem FwAt.step {m : Nat → Nat → Bool} {n t i k : Nat} {l : List Int} (hn : n ≤ 16) (ht : t < n) (hi : i < n) (hk : k < n) (f : FwAt m n t i k l) : FwAt m n t i (k + 1) (l.set (16 * i + k) (min (gd l i k) (gd l i t + gd l t k))) := by
  obtain ⟨⟨f1, f2, f3, f4⟩, f5⟩ := f
  have a1 := f2 i k hi hk
  have a2 := f2 i t hi ht
  have a3 := f2 t k ht hk
  have b1 := f4 i k hi hk
  have b2 := f4 i t hi ht
  have b3 := f4 t k ht hk
  have g : ∀ i' k', k' < n → gd (l.set (16 * i + k) (min (gd l i k) (gd l i t + gd l t k))) i' k' = if i' = i ∧ k' = k then min (gd l i k) (gd l i t + gd l t k) else gd l i' k' := fun i' k' h => gd_set f1 (by omega) (by omega) (by omega)
  refine ⟨⟨by rw [List.length_set]; exact f1, ?_, ?_, ?_⟩, ?_⟩
  · intro i' k' h1 h2
    rw [g _ _ h2]
    split
    · omega
    · exact f2 _ _ h1 h2
  · intro i' k' h1 h2
    rw [g _ _ h2]
    split
    · rename_i e
      obtain ⟨rfl, rfl⟩ := e
      intro h
      by_cases q : gd l i' k' ≤ gd l i' t + gd l t k'
      · rw [Int.min_eq_left q] at h ⊢
        exact f3 _ _ h1 h2 h
      · rw [Int.min_eq_right (by omega)] at h ⊢
        have := (f3 i' t hi ht (by omega)).trans (f3 t k' ht hk (by omega))
        rw [show (gd l i' t).toNat + (gd l t k').toNat = (gd l i' t + gd l t k').toNat by omega] at this
        exact this
    · exact f3 _ _ h1 h2
  · intro i' k' h1 h2
    rw [g _ _ h2]
    split
    · rename_i e
      obtain ⟨rfl, rfl⟩ := e
      omega
    · exact f4 _ _ h1 h2
  · intro i' k' h1 h2 h
    rw [g _ _ h2]
    split
    · rename_i e
      obtain ⟨rfl, rfl⟩ := e
      show _ ≤ min (Vt m t i' k') (Vt m t i' t + Vt m t t k')
      omega
    · exact f5 _ _ h1 h2 (by omega)
/-- The first table. -/
def Fi (m : Nat → Nat → Bool) (n i k : Nat) (l : List Int) : Prop := l.length = 256 ∧ ∀ i' k', i' < n → k' < n → Lx i k i' k' → gd l i' k' = Vt m 0 i' k'
theorem Fi.step {m : Nat → Nat → Bool} {n i k : Nat} {l : List Int} (hn : n ≤ 16) (hi : i < n) (hk : k < n) (f : Fi m n i k l) : Fi m n i (k + 1) (l.set (16 * i + k) (Vt m 0 i k)) := by
  obtain ⟨f1, f2⟩ := f
  refine ⟨by rw [List.length_set]; exact f1, fun i' k' h1 h2 h => ?_⟩
  rw [gd_set f1 (by omega) (by omega) (by omega)]
  split
  · rename_i e
    obtain ⟨rfl, rfl⟩ := e
    rfl
  · exact f2 _ _ h1 h2 (by omega)
theorem Fi.row {m : Nat → Nat → Bool} {n i : Nat} {l : List Int} (f : Fi m n i n l) : Fi m n (i + 1) 0 l := ⟨f.1, fun i' k' h1 h2 h => f.2 i' k' h1 h2 (by omega)⟩
theorem Fi.done {m : Nat → Nat → Bool} {n : Nat} {l : List Int} (f : Fi m n n 0 l) : Fw m n 0 l := by
  obtain ⟨f1, f2⟩ := f
  have h : ∀ i k, i < n → k < n → gd l i k = Vt m 0 i k := fun i k h1 h2 => f2 i k h1 h2 (by omega)
  refine ⟨f1, ?_, ?_, ?_⟩
  · intro i k h1 h2
    rw [h i k h1 h2]
    unfold Vt
    split
    · omega
    · split <;> omega
  · intro i k h1 h2
    rw [h i k h1 h2]
    unfold Vt
    split
    · rename_i e; subst e; intro _; exact .here i
    · split
      · rename_i e; intro _; exact Wk.one e
      · intro e; omega
  · intro i k h1 h2; rw [h i k h1 h2]; exact Int.le_refl _
/-- What the last pass makes. -/
def fwE (n i k : Nat) (x : Int) : Int := if n ≤ i ∨ n ≤ k ∨ 99 ≤ x then -1 else x
def Fe (n : Nat) (l0 : List Int) (i k : Nat) (l : List Int) : Prop := l.length = 256 ∧ ∀ i' k', i' < 16 → k' < 16 → gd l i' k' = if Lx i k i' k' then fwE n i' k' (gd l0 i' k') else gd l0 i' k'
theorem Fe.step {n i k : Nat} {l0 l : List Int} (hi : i < 16) (hk : k < 16) (f : Fe n l0 i k l) : Fe n l0 i (k + 1) (l.set (16 * i + k) (fwE n i k (gd l i k))) := by
  obtain ⟨f1, f2⟩ := f
  refine ⟨by rw [List.length_set]; exact f1, fun i' k' h1 h2 => ?_⟩
  rw [gd_set f1 (by omega) (by omega) (by omega)]
  by_cases e : i' = i ∧ k' = k
  · obtain ⟨rfl, rfl⟩ := e
    rw [if_pos ⟨rfl, rfl⟩, if_pos (by omega), f2 _ _ h1 h2, if_neg (by omega)]
  · rw [if_neg e, f2 _ _ h1 h2]
    by_cases q : Lx i k i' k'
    · rw [if_pos q, if_pos (by omega)]
    · rw [if_neg q, if_neg (by omega)]
theorem Fe.same {n i k : Nat} {l0 l : List Int} (hi : i < 16) (hk : k < 16) (f : Fe n l0 i k l) (h : fwE n i k (gd l i k) = gd l i k) : Fe n l0 i (k + 1) l := by
  obtain ⟨f1, f2⟩ := f
  refine ⟨f1, fun i' k' h1 h2 => ?_⟩
  rw [f2 _ _ h1 h2]
  by_cases e : i' = i ∧ k' = k
  · obtain ⟨rfl, rfl⟩ := e
    rw [f2 _ _ h1 h2, if_neg (by omega)] at h
    rw [if_neg (by omega), if_pos (by omega), h]
  · by_cases q : Lx i k i' k'
    · rw [if_pos q, if_pos (by omega)]
    · rw [if_neg q, if_neg (by omega)]
theorem Fe.row {n i : Nat} {l0 l : List Int} (f : Fe n l0 i 16 l) : Fe n l0 (i + 1) 0 l := ⟨f.1, fun i' k' h1 h2 => by
  rw [f.2 i' k' h1 h2]
  by_cases q : Lx i 16 i' k'
  · rw [if_pos q, if_pos (by omega)]
  · rw [if_neg q, if_neg (by omega)]⟩
/-- What the table says. -/
structure Tab (m : Nat → Nat → Bool) (n : Nat) (l : List Int) : Prop where
  len : l.length = 256
  is : ∀ i k, i < n → k < n → (gd l i k = -1 ∧ ∀ j, Wk m i k j → 99 ≤ j) ∨ (0 ≤ gd l i k ∧ Wk m i k (gd l i k).toNat ∧ ∀ j : Nat, Wk m i k j → gd l i k ≤ j)
  lt : ∀ i k, i < 16 → k < 16 → -1 ≤ gd l i k ∧ gd l i k < 99
  off : ∀ i k, i < 16 → k < 16 → n ≤ i ∨ n ≤ k → gd l i k = -1
theorem Fe.done {m : Nat → Nat → Bool} {n : Nat} {l0 l : List Int} (hn : n ≤ 16) (hm : ∀ i k, m i k = true → i < n) (f0 : Fw m n n l0) (f : Fe n l0 16 0 l) : Tab m n l := by
  obtain ⟨f1, f2⟩ := f
  have h : ∀ i k, i < 16 → k < 16 → gd l i k = fwE n i k (gd l0 i k) := fun i k h1 h2 => by rw [f2 i k h1 h2, if_pos (by omega)]
  refine ⟨f1, ?_, ?_, ?_⟩
  · intro i k h1 h2
    rw [h i k (by omega) (by omega)]
    have a1 := f0.lo i k h1 h2
    have a2 := f0.hi i k h1 h2
    unfold fwE
    by_cases q : n ≤ i ∨ n ≤ k ∨ 99 ≤ gd l0 i k
    · rw [if_pos q]
      refine .inl ⟨rfl, fun j w => ?_⟩
      have := Vt_walk hm w
      omega
    · rw [if_neg q]
      refine .inr ⟨by omega, f0.wk i k h1 h2 (by omega), fun j w => ?_⟩
      have := Vt_walk hm w
      omega
  · intro i k h1 h2
    rw [h i k h1 h2]
    unfold fwE
    by_cases q : n ≤ i ∨ n ≤ k ∨ 99 ≤ gd l0 i k
    · rw [if_pos q]; omega
    · rw [if_neg q]
      have a1 := f0.lo i k (by omega) (by omega)
      omega
  · intro i k h1 h2 q
    rw [h i k h1 h2]
    unfold fwE
    rw [if_pos (by omega)]
theorem Tab.dist {m : Nat → Nat → Bool} {n i k : Nat} {l : List Int} {f : Int} (t : Tab m n l) (h1 : i < n) (h2 : k < n) (d : Dist m i k f) (hf : f < 99) : gd l i k = f := by
  rcases t.is i k h1 h2 with ⟨t1, t2⟩ | ⟨t1, t2, t3⟩ <;> rcases d with ⟨d1, d2⟩ | ⟨d1, d2, d3⟩
  · omega
  · have := t2 _ d2; omega
  · exact absurd t2 (d2 _)
  · have := t3 _ d2; have := d3 _ t2; omega
end Go.SL

/- Layer 34: a graph: its items; its small functions, walked. -/
namespace Go.SL
open Go.Proofs
set_option linter.unusedVariables false
set_option linter.unusedSimpArgs false
set_option linter.unusedSectionVars false
set_option maxRecDepth 10000
set_option maxHeartbeats 4000000

def rowV (m : Nat → Nat → Bool) (n i : Nat) : List Value := (List.range n).map fun k => .bool (m i k)
def rowS (n r : Nat) : Value := .slice (some ⟨r, 0, none⟩) n n
def grRows (m : Nat → Nat → Bool) (n : Nat) : Nat → List Nat → List HP
  | _, [] => []
  | i, r :: rs => pts r (.cells (rowV m n i).toArray 4) :: grRows m n (i + 1) rs
def Gr (b mb : Nat) (rs : List Nat) (n : Nat) (m : Nat → Nat → Bool) : HP :=
  conj (pts b (.cells [.bool true, .slice (some ⟨mb, 0, none⟩) n n].toArray 104) :: pts mb (.cells (rs.map (rowS n)).toArray 35) :: grRows m n 0 rs)
/-- Who may meet. -/
structure MtOk (m : Nat → Nat → Bool) (n : Nat) : Prop where
  le : n ≤ 16
  bd : ∀ i k, m i k = true → i < n ∧ k < n
  sym : ∀ i k, m i k = m k i
  irr : ∀ i, m i i = false
/-- What can be read of one. -/
structure GrR (b mb : Nat) (rs : List Nat) (n : Nat) (m : Nat → Nat → Bool) (L : List HP) : Prop where
  len : rs.length = n
  rb : Rd L b (.cells [.bool true, .slice (some ⟨mb, 0, none⟩) n n].toArray 104)
  rm : RdS 1 (some ⟨mb, 0, none⟩) n (rs.map (rowS n)) L
  rr : ∀ i, i < n → RdS 1 (some ⟨rs.getD i 0, 0, none⟩) n (rowV m n i) L
theorem Rd.ent {L M : List HP} {b : Nat} {o : Obj} (e : Ent L M) (r : Rd M b o) : Rd L b o := ⟨fun h x => r.rd h (e h x)⟩
theorem GrR.ent {b mb : Nat} {rs : List Nat} {n : Nat} {m : Nat → Nat → Bool} {L M : List HP} (e : Ent L M) (g : GrR b mb rs n m M) : GrR b mb rs n m L :=
  ⟨g.len, Rd.ent e g.rb, RdS.ent e g.rm, fun i h => RdS.ent e (g.rr i h)⟩
theorem GrR.cons {b mb : Nat} {rs : List Nat} {n : Nat} {m : Nat → Nat → Bool} {A : HP} {L : List HP} (g : GrR b mb rs n m L) : GrR b mb rs n m (A :: L) :=
  ⟨g.len, @Rd.there A b _ L g.rb, g.rm.cons, fun i h => (g.rr i h).cons⟩
theorem Ent.tail1 {A : HP} {L : List HP} : Ent (A :: L) L := fun _ x => x.tail
theorem Ent.conj1 {L M : List HP} : Ent (SL.conj L :: M) (L ++ M) := fun _ x => has_conj.1 x
theorem Ent.conj2 {L M : List HP} : Ent (L ++ M) (SL.conj L :: M) := fun _ x => has_conj.2 x
theorem rowV_len (m : Nat → Nat → Bool) (n i : Nat) : (rowV m n i).length = n := by simp [rowV]
theorem rowV_get (m : Nat → Nat → Bool) (n i k : Nat) (h : k < n) : (rowV m n i)[k]? = some (.bool (m i k)) := by simp [rowV, h]
theorem rows_rd (m : Nat → Nat → Bool) (n : Nat) (R : List HP) : ∀ (rs : List Nat) (j i : Nat), i < rs.length → RdS 1 (some ⟨rs.getD i 0, 0, none⟩) n (rowV m n (j + i)) (grRows m n j rs ++ R)
  | [], _, _, h => by simp at h
  | r :: rs, j, 0, h => by
    show RdS 1 (some ⟨r, 0, none⟩) n (rowV m n j) (pts r _ :: (grRows m n (j + 1) rs ++ R))
    exact RdS.all (by rw [rowV_len]; omega)
  | r :: rs, j, i + 1, h => by
    have := rows_rd m n R rs (j + 1) i (by simpa using h)
    rw [show j + (i + 1) = j + 1 + i by omega]
    exact this.cons
theorem Gr.rd {b mb : Nat} {rs : List Nat} {n : Nat} {m : Nat → Nat → Bool} {R : List HP} (hl : rs.length = n) : GrR b mb rs n m (Gr b mb rs n m :: R) := by
  have e : Ent (Gr b mb rs n m :: R) (pts b (.cells [.bool true, .slice (some ⟨mb, 0, none⟩) n n].toArray 104) :: pts mb (.cells (rs.map (rowS n)).toArray 35) :: (grRows m n 0 rs ++ R)) := Ent.conj1
  refine GrR.ent e ⟨hl, Rd.here, (RdS.all (by simp [hl])).cons, fun i h => ?_⟩
  have := rows_rd m n R rs 0 i (by omega)
  rw [Nat.zero_add] at this
  exact this.cons.cons
attribute [local irreducible] W WO SV OW SW Tri Ent Tk Has Src SrcK DA DB RdS Own

theorem rg_none {b mb : Nat} {rs : List Nat} {n : Nat} {m : Nat → Nat → Bool} (L : List HP) (g : GrR b mb rs n m L) :
    TriE Try.prog 56 #[.pointer (some ⟨b, 0, none⟩)] (fun v M => v = .bool false ∧ M = L) L := by
  haveI := g.rb
  refine Tri.of (N := 12) (args := [.pointer (some ⟨b, 0, none⟩)]) Try.func56 rfl rfl rfl ?_
  refine go ?_
  exact ⟨rfl, [_], ⟨Res.tmp rfl, trivial⟩, _, ent, rfl, rfl⟩
theorem rg_Len {b mb : Nat} {rs : List Nat} {n : Nat} {m : Nat → Nat → Bool} (L : List HP) (g : GrR b mb rs n m L) :
    TriE Try.prog 26 #[.pointer (some ⟨b, 0, none⟩)] (fun v M => v = .int .i64 n ∧ M = L) L := by
  haveI := g.rb
  refine Tri.of (N := 10) (args := [.pointer (some ⟨b, 0, none⟩)]) Try.func26 rfl rfl rfl ?_
  refine go ?_
  refine WO.callE (vs := [.pointer (some ⟨b, 0, none⟩)]) Try.func56 rfl rfl rfl rfl (rg_none _ g) ?_
  rintro v M ⟨rfl, rfl⟩
  refine go ?_
  exact ⟨rfl, [_], ⟨Res.tmp rfl, trivial⟩, _, ent, rfl, rfl⟩
theorem rg_is {b mb : Nat} {rs : List Nat} {n : Nat} {m : Nat → Nat → Bool} (L : List HP) (a : Int) (g : GrR b mb rs n m L) :
    TriE Try.prog 57 #[.pointer (some ⟨b, 0, none⟩), .int .i64 a] (fun v M => v = .bool (decide (0 ≤ a ∧ a < n)) ∧ M = L) L := by
  refine Tri.of (N := 13) (args := [.pointer (some ⟨b, 0, none⟩), .int .i64 a]) Try.func57 rfl rfl rfl ?_
  by_cases h : 0 ≤ a
  · refine go ?_
    refine WO.callE (vs := [.pointer (some ⟨b, 0, none⟩)]) Try.func26 rfl rfl rfl rfl (rg_Len _ g) ?_
    rintro v M ⟨rfl, rfl⟩
    refine goD ?_
    refine ⟨rfl, [_], ⟨Res.tmp rfl, trivial⟩, _, ent, ?_, rfl⟩
    rw [show decide (0 ≤ a ∧ a < (n : Int)) = decide (a < (n : Int)) by simp [h]]; rfl
  · refine go ?_
    refine ⟨rfl, [_], ⟨Res.tmp rfl, trivial⟩, _, ent, ?_, rfl⟩
    rw [show decide (0 ≤ a ∧ a < (n : Int)) = false by simp [h]]; rfl
end Go.SL

/- Layer 34: a graph is made; two meet. -/
namespace Go.SL
open Go.Proofs
set_option linter.unusedVariables false
set_option linter.unusedSimpArgs false
set_option linter.unusedSectionVars false
set_option maxRecDepth 10000
set_option maxHeartbeats 4000000

def RowsH (m : Nat → Nat → Bool) (n : Nat) (rs : List Nat) : HP := conj (grRows m n 0 rs)
theorem grRows_app (m : Nat → Nat → Bool) (n r : Nat) : ∀ (rs : List Nat) (j : Nat), grRows m n j (rs ++ [r]) = grRows m n j rs ++ [pts r (.cells (rowV m n (j + rs.length)).toArray 4)]
  | [], j => rfl
  | x :: rs, j => by
    show pts x _ :: grRows m n (j + 1) (rs ++ [r]) = pts x _ :: (grRows m n (j + 1) rs ++ _)
    rw [grRows_app m n r rs (j + 1), List.length_cons, show j + 1 + rs.length = j + (rs.length + 1) by omega]
theorem RowsH.add {m : Nat → Nat → Bool} {n r i : Nat} {rs : List Nat} {L : List HP} (hi : rs.length = i) : Ent (pts r (.cells (rowV m n i).toArray 4) :: RowsH m n rs :: L) (RowsH m n (rs ++ [r]) :: L) := by
  intro h x
  have x2 : Has (RowsH m n rs :: pts r (.cells (rowV m n i).toArray 4) :: L) h := x.swap
  have x3 := has_conj.1 x2
  refine has_conj.2 ?_
  rw [grRows_app, Nat.zero_add, hi, List.append_assoc]
  exact x3
theorem RowsH.add2 {m : Nat → Nat → Bool} {n r i : Nat} {rs : List Nat} {A B : HP} {L : List HP} (hi : rs.length = i) : Ent (pts r (.cells (rowV m n i).toArray 4) :: A :: B :: RowsH m n rs :: L) (([A] ++ []) ++ (B :: RowsH m n (rs ++ [r]) :: L)) :=
  fun h x => Has.cons_of (fun _ y => Has.cons_of (RowsH.add hi) y.swap) x.swap
theorem setNext {l : List Value} {n i : Nat} {z v : Value} (hl : l.length = i) (hi : i < n) : (l ++ List.replicate (n - i) z).set i v = (l ++ [v]) ++ List.replicate (n - (i + 1)) z := by
  rw [List.set_append_right _ _ (by omega), hl, Nat.sub_self, show n - i = (n - (i + 1)) + 1 by omega, List.replicate_succ]
  simp
theorem RowsH.nil {m : Nat → Nat → Bool} {n : Nat} {L : List HP} : Ent L (RowsH m n [] :: L) := fun h x => has_conj.2 x
theorem Gr.make {b mb : Nat} {rs : List Nat} {n : Nat} {m : Nat → Nat → Bool} {L : List HP} :
    Ent (pts b (.cells [.bool true, .slice (some ⟨mb, 0, none⟩) n n].toArray 104) :: pts mb (.cells (rs.map (rowS n)).toArray 35) :: RowsH m n rs :: L) (Gr b mb rs n m :: L) := fun h x => by
  refine has_conj.2 ?_
  exact Has.cons_of (fun _ y => Has.cons_of (fun _ z => has_conj.1 z) y) x
theorem Gr.split {b mb : Nat} {rs : List Nat} {n : Nat} {m : Nat → Nat → Bool} {L : List HP} :
    Ent (Gr b mb rs n m :: L) (pts b (.cells [.bool true, .slice (some ⟨mb, 0, none⟩) n n].toArray 104) :: pts mb (.cells (rs.map (rowS n)).toArray 35) :: RowsH m n rs :: L) := fun h x =>
  Has.cons_of (fun _ y => Has.cons_of (fun _ z => has_conj.2 z) y) (show Has (pts b _ :: pts mb _ :: (grRows m n 0 rs ++ L)) h from has_conj.1 x)
attribute [local irreducible] W WO SV OW SW Tri Ent Tk Has Src SrcK DA DB RdS Own RowsH Gr
theorem rowV_none (n i : Nat) : rowV (fun _ _ => false) n i = List.replicate n (.bool false) := by
  simp [rowV, List.map_const']
theorem rg_New (n : Nat) (hn : n ≤ 16) (L : List HP) :
    TriE Try.prog 22 #[.int .i64 n] (fun v M => ∃ b mb rs, v = .tuple #[.pointer (some ⟨b, 0, none⟩), .int .i64 0] ∧ rs.length = n ∧ M = Gr b mb rs n (fun _ _ => false) :: L) L := by
  refine Tri.of (N := 34) (args := [.int .i64 n]) Try.func22 rfl rfl rfl ?_
  refine go ?_
  refine WO.sv rfl ?_
  refine SV.makeSlice rfl (m := n) rfl (by omega) (by omega) ?_
  intro mb
  refine go ?_
  intro b
  refine go ?_
  refine W.ent (show Ent _ (RowsH (fun _ _ => false) n [] :: _) from RowsH.nil) ?_
  rw [show List.replicate n (Value.slice none 0 0) = (([] : List Nat).map (rowS n)) ++ List.replicate (n - 0) (Value.slice none 0 0) from rfl]
  refine W.loopS 8587837472 rfl (fun s : Nat × List Nat => [(21, .int .i64 (s.1 : Int))]) (fun s => pts b (.cells [.bool true, .slice (some ⟨mb, 0, none⟩) n n].toArray 104) :: pts mb (.cells (s.2.map (rowS n) ++ List.replicate (n - s.1) (Value.slice none 0 0)).toArray 35) :: RowsH (fun _ _ => false) n s.2 :: L) (fun s => s.1 ≤ n ∧ s.2.length = s.1) (fun s => n - s.1) (0, []) ⟨rfl, trivial⟩ ⟨Nat.zero_le _, rfl⟩ (Ent.app ent) ?_
  rintro ⟨i, rs⟩ bg ⟨hi, hrs⟩
  dsimp only at hi hrs ⊢
  by_cases h : i < n
  · refine go ?_
    refine W.drawB #[0, 1, 3, 7, 0, 0, 32, 127, 255] [pts b (.cells [.bool true, .slice (some ⟨mb, 0, none⟩) n n].toArray 104)] (pts mb (.cells (rs.map (rowS n) ++ List.replicate (n - i) (Value.slice none 0 0)).toArray 35) :: RowsH (fun _ _ => false) n rs :: L) rfl (by kernel_rfl) (by kernel_rfl) (by kernel_rfl) ent ?_
    refine go ?_
    refine DB.v rfl rfl rfl hl hl ?_
    refine SV.makeSlice rfl (m := n) rfl (by omega) (by omega) ?_
    intro r
    rw [← rowV_none n i]
    refine ⟨[], pts mb (.cells (rs.map (rowS n) ++ List.replicate (n - i) (Value.slice none 0 0)).toArray 35) :: RowsH (fun _ _ => false) n (rs ++ [r]) :: L, RowsH.add2 hrs, ?_⟩
    refine go ?_
    refine DB.v rfl rfl rfl hl hl ?_
    refine SV.storeS (v := rowS n r) rfl rfl rfl (.inl (Nat.le_refl _)) (by simp; omega) ?_
    rw [show 0 + (i : Int).toNat * 1 = i by omega, setNext (by simpa using hrs) h, show rs.map (rowS n) ++ [rowS n r] = (rs ++ [r]).map (rowS n) by simp]
    refine ⟨[], pts mb (.cells ((rs ++ [r]).map (rowS n) ++ List.replicate (n - (i + 1)) (Value.slice none 0 0)).toArray 35) :: RowsH (fun _ _ => false) n (rs ++ [r]) :: L, ent, ?_⟩
    refine go ?_
    refine ⟨pts b (.cells [.bool true, .slice (some ⟨mb, 0, none⟩) n n].toArray 104) :: pts mb (.cells ((rs ++ [r]).map (rowS n) ++ List.replicate (n - (i + 1)) (Value.slice none 0 0)).toArray 35) :: RowsH (fun _ _ => false) n (rs ++ [r]) :: L, ent, ?_⟩
    refine go ?_
    exact ⟨(i + 1, rs ++ [r]), ⟨rfl, trivial⟩, rfl, ⟨by dsimp only; omega, by dsimp only; simp; omega⟩, by dsimp only; omega, Ent.app ent⟩
  · obtain rfl : i = n := by omega
    refine go ?_
    rw [Nat.sub_self, List.replicate_zero, List.append_nil]
    exact ⟨rfl, [_, _], ⟨Res.tmp rfl, Res.tmp rfl, trivial⟩, Gr b mb rs i (fun _ _ => false) :: L, Gr.make, b, mb, rs, rfl, hrs, rfl⟩
theorem rg_NewBad (n : Int) (h : n < 0 ∨ 16 < n) (L : List HP) :
    TriE Try.prog 22 #[.int .i64 n] (fun v M => v = .tuple #[.pointer none, .int .i64 2] ∧ M = L) L := by
  refine Tri.of (N := 34) (args := [.int .i64 n]) Try.func22 rfl rfl rfl ?_
  by_cases h1 : n < 0
  · refine go ?_
    exact ⟨rfl, [_, _], ⟨Res.tmp rfl, Res.tmp rfl, trivial⟩, _, ent, rfl, rfl⟩
  · refine go ?_
    exact ⟨rfl, [_, _], ⟨Res.tmp rfl, Res.tmp rfl, trivial⟩, _, ent, rfl, rfl⟩
theorem rg_Linked {b mb : Nat} {rs : List Nat} {n : Nat} {m : Nat → Nat → Bool} (L : List HP) (x y : Int) (g : GrR b mb rs n m L) :
    TriE Try.prog 30 #[.pointer (some ⟨b, 0, none⟩), .int .i64 x, .int .i64 y] (fun v M => v = .bool (decide (0 ≤ x ∧ x < n) && decide (0 ≤ y ∧ y < n) && m x.toNat y.toNat) ∧ M = L) L := by
  haveI := g.rb
  have rm := g.rm
  refine Tri.of (N := 27) (args := [.pointer (some ⟨b, 0, none⟩), .int .i64 x, .int .i64 y]) Try.func30 rfl rfl rfl ?_
  refine go ?_
  refine WO.callE (vs := [.pointer (some ⟨b, 0, none⟩), .int .i64 x]) Try.func57 rfl rfl rfl rfl (rg_is _ x g) ?_
  rintro v M ⟨rfl, rfl⟩
  by_cases hx : 0 ≤ x ∧ x < n
  rotate_left
  · rw [decide_eq_false hx]
    refine go ?_
    exact ⟨rfl, [_], ⟨Res.tmp rfl, trivial⟩, _, ent, rfl, rfl⟩
  rw [decide_eq_true hx]
  refine go ?_
  refine WO.callE (vs := [.pointer (some ⟨b, 0, none⟩), .int .i64 y]) Try.func57 rfl rfl rfl rfl (rg_is _ y g) ?_
  rintro v M ⟨rfl, rfl⟩
  by_cases hy : 0 ≤ y ∧ y < n
  rotate_left
  · rw [decide_eq_false hy]
    refine go ?_
    exact ⟨rfl, [_], ⟨Res.tmp rfl, trivial⟩, _, ent, rfl, rfl⟩
  rw [decide_eq_true hy]
  obtain ⟨i, rfl⟩ : ∃ i : Nat, x = i := ⟨x.toNat, by omega⟩
  obtain ⟨k, rfl⟩ : ∃ k : Nat, y = k := ⟨y.toNat, by omega⟩
  have rr := g.rr i (by omega)
  have g1 : (rs.map (rowS n))[i]? = some (rowS n (rs.getD i 0)) := by
    have := g.len
    simp [List.getD_eq_getElem?_getD, show i < rs.length by omega]
  have g2 := rowV_get m n i k (by omega)
  refine go ?_
  refine WO.sv rfl ?_
  refine SV.loadR (v := rowS n (rs.getD i 0)) i rfl rds (by omega) g1 ?_
  refine go ?_
  refine WO.sv rfl ?_
  refine SV.loadR (v := .bool (m i k)) k rfl rds (by omega) g2 ?_
  refine go ?_
  exact ⟨rfl, [_], ⟨Res.tmp rfl, trivial⟩, _, ent, rfl, rfl⟩
end Go.SL

/- Layer 34: two meet. -/
namespace Go.SL
open Go.Proofs
set_option linter.unusedVariables false
set_option linter.unusedSimpArgs false
set_option linter.unusedSectionVars false
set_option maxRecDepth 10000
set_option maxHeartbeats 4000000

theorem SW.post {P : Program} {L : List HP} {α : Type} {s : Sem α} {K K' : α → List HP → Prop} (h : SW P s K' L) (hk : ∀ v L', K' v L' → ∃ N, Ent L' N ∧ K v N) : SW P s K L := by
  intro Fr w x
  obtain ⟨r, w', L', a, b, c, d⟩ := h Fr w x
  obtain ⟨N, e, k⟩ := hk r L' b
  exact ⟨r, w', N, a, k, e.app Fr _ c, d⟩
theorem SV.post {P : Program} {ro : Option Nat} {o : Oper} {f : Frm} {L : List HP} {K K' : Value → List HP → Prop} (h : SV P ro o f K' L) (hk : ∀ v L', K' v L' → ∃ N, Ent L' N ∧ K v N) : SV P ro o f K L := by
  unfold SV at *
  refine SW.post h ?_
  rintro nx L' ⟨v, hv, hK⟩
  obtain ⟨N, e, k⟩ := hk v L' hK
  exact ⟨N, e, v, hv, k⟩
theorem SV.pre {P : Program} {ro : Option Nat} {o : Oper} {f : Frm} {L M : List HP} {K : Value → List HP → Prop} (e : Ent L M) (h : SV P ro o f K M) : SV P ro o f K L := by
  unfold SV at *
  exact SW.ent e h
/-- One meets one. -/
def set1 (m : Nat → Nat → Bool) (a b : Nat) : Nat → Nat → Bool := fun i k => if i = a ∧ k = b then true else m i k
theorem grRows_congr {m m' : Nat → Nat → Bool} {n : Nat} : ∀ (rs : List Nat) (j : Nat), (∀ i, j ≤ i → rowV m' n i = rowV m n i) → grRows m' n j rs = grRows m n j rs
  | [], _, _ => rfl
  | r :: rs, j, h => by
    show pts r _ :: grRows m' n (j + 1) rs = pts r _ :: grRows m n (j + 1) rs
    rw [grRows_congr rs (j + 1) (fun i hi => h i (by omega)), h j (Nat.le_refl _)]
theorem rows_upd {m m' : Nat → Nat → Bool} {n : Nat} : ∀ (rs : List Nat) (j i : Nat), i < rs.length → (∀ i', i' ≠ j + i → rowV m' n i' = rowV m n i') → ∃ rest : List HP,
    (∀ R, Ent (grRows m n j rs ++ R) (pts (rs.getD i 0) (.cells (rowV m n (j + i)).toArray 4) :: (rest ++ R))) ∧ (∀ R, Ent (pts (rs.getD i 0) (.cells (rowV m' n (j + i)).toArray 4) :: (rest ++ R)) (grRows m' n j rs ++ R))
  | [], _, _, h, _ => by simp at h
  | r :: rs, j, 0, h, e => by
    refine ⟨grRows m n (j + 1) rs, fun R => Ent.refl _, fun R => ?_⟩
    rw [← grRows_congr (m' := m') rs (j + 1) (fun i hi => e i (by omega))]
    exact Ent.refl _
  | r :: rs, j, i + 1, h, e => by
    obtain ⟨rest, h1, h2⟩ := rows_upd (m := m) (m' := m') (n := n) rs (j + 1) i (by simpa using h) (fun i' hi => e i' (by omega))
    have e1 : j + 1 + i = j + (i + 1) := by omega
    rw [e1] at h1 h2
    refine ⟨pts r (.cells (rowV m n j).toArray 4) :: rest, fun R hp x => ?_, fun R hp x => ?_⟩
    · have x2 : Has (pts r (.cells (rowV m n j).toArray 4) :: (grRows m n (j + 1) rs ++ R)) hp := x
      exact (Has.cons_of (h1 R) x2).swap
    · show Has (pts r (.cells (rowV m' n j).toArray 4) :: (grRows m' n (j + 1) rs ++ R)) hp
      rw [e j (by omega)]
      exact Has.cons_of (h2 R) x.swap
theorem rowV_set (m : Nat → Nat → Bool) (n a k : Nat) (hk : k < n) : (rowV m n a).set k (.bool true) = rowV (set1 m a k) n a := by
  apply List.ext_getElem
  · simp [rowV]
  · intro i h1 h2
    simp only [rowV, List.length_set, List.length_map, List.length_range] at h1
    simp only [rowV, set1, List.getElem_set, List.getElem_map, List.getElem_range]
    by_cases e : k = i
    · subst e; simp
    · rw [if_neg e, if_neg (fun z => e z.2.symm)]
theorem SV.setRow {P : Program} {ro : Option Nat} {f : Frm} {L R : List HP} {d : Option Nat} {ty : TypeId} {ps : String} {af : Array Edge} {gu : Option (Nat × Bool)} {K : Value → List HP → Prop} {t : Nat} {x y : Operand} {n a k : Nat} {rs : List Nat} {m : Nat → Nat → Bool}
    (hx : f.ev x = .pointer (some ⟨rs.getD a 0, k, none⟩)) (hy : f.ev y = .bool true) [hs : TS P t 1] (c : Tk L (RowsH m n rs) R) (ha : a < rs.length) (hk : k < n)
    (h : K undef (RowsH (set1 m a k) n rs :: R)) : SV P ro ⟨d, .store t x y, ty, ps, af, gu⟩ f K L := by
  obtain ⟨rest, h1, h2⟩ := rows_upd (m := m) (m' := set1 m a k) (n := n) rs 0 a ha (fun i' hi => by
    simp only [rowV, set1]
    apply List.map_congr_left
    intro z _
    rw [if_neg (fun q => hi (by omega))])
  rw [Nat.zero_add] at h1 h2
  have hop : Ent L (pts (rs.getD a 0) (.cells (rowV m n a).toArray 4) :: (rest ++ R)) := fun hp y => h1 R hp (has_conj.1 (c hp y))
  have hcl : Ent (pts (rs.getD a 0) (.cells (rowV (set1 m a k) n a).toArray 4) :: (rest ++ R)) (RowsH (set1 m a k) n rs :: R) := fun hp y => has_conj.2 (h2 R hp y)
  refine SV.pre hop (SV.post (K' := fun v L' => v = undef ∧ L' = pts (rs.getD a 0) (.cells (rowV (set1 m a k) n a).toArray 4) :: (rest ++ R)) ?_ ?_)
  · refine SV.storeS (v := .bool true) hx hy rfl (.inl (Nat.le_refl _)) (by rw [rowV_len]; exact hk) ⟨rfl, ?_⟩
    rw [rowV_set m n a k hk]
  · rintro v L' ⟨rfl, rfl⟩
    exact ⟨_, hcl, h⟩
attribute [local irreducible] W WO SV OW SW Tri Ent Tk Has Src SrcK DA DB RdS Own RowsH Gr
def setM (m : Nat → Nat → Bool) (a b : Nat) : Nat → Nat → Bool := set1 (set1 m a b) b a
theorem setM_eq (m : Nat → Nat → Bool) (a b i k : Nat) : setM m a b i k = if (i = a ∧ k = b) ∨ (i = b ∧ k = a) then true else m i k := by
  unfold setM set1
  by_cases h1 : i = b ∧ k = a
  · rw [if_pos h1, if_pos (.inr h1)]
  · by_cases h2 : i = a ∧ k = b
    · rw [if_neg h1, if_pos h2, if_pos (.inl h2)]
    · rw [if_neg h1, if_neg h2, if_neg (fun z => z.elim h2 h1)]
theorem MtOk.set {m : Nat → Nat → Bool} {n a b : Nat} (o : MtOk m n) (ha : a < n) (hb : b < n) (hab : a ≠ b) : MtOk (setM m a b) n := by
  refine ⟨o.le, fun i k h => ?_, fun i k => ?_, fun i => ?_⟩
  · rw [setM_eq] at h
    by_cases q : (i = a ∧ k = b) ∨ (i = b ∧ k = a)
    · omega
    · rw [if_neg q] at h; exact o.bd i k h
  · rw [setM_eq, setM_eq]
    by_cases q : (i = a ∧ k = b) ∨ (i = b ∧ k = a)
    · rw [if_pos q, if_pos (by omega)]
    · rw [if_neg q, if_neg (by omega)]; exact o.sym i k
  · rw [setM_eq, if_neg (by omega)]; exact o.irr i
theorem MtOk.none {n : Nat} (h : n ≤ 16) : MtOk (fun _ _ => false) n := ⟨h, fun _ _ q => (by cases q), fun _ _ => rfl, fun _ => rfl⟩
def lkOk (n : Nat) (x y : Int) : Prop := (0 ≤ x ∧ x < n) ∧ (0 ≤ y ∧ y < n) ∧ x ≠ y
instance (n : Nat) (x y : Int) : Decidable (lkOk n x y) := by unfold lkOk; infer_instance
theorem rg_Link {b mb : Nat} {rs : List Nat} {n : Nat} {m : Nat → Nat → Bool} (L : List HP) (x y : Int) (hlen : rs.length = n) :
    TriE Try.prog 32 #[.pointer (some ⟨b, 0, none⟩), .int .i64 x, .int .i64 y] (fun v M => v = .int .i64 (if lkOk n x y then 0 else 2) ∧ M = Gr b mb rs n (if lkOk n x y then setM m x.toNat y.toNat else m) :: L) (Gr b mb rs n m :: L) := by
  have g : GrR b mb rs n m (Gr b mb rs n m :: L) := Gr.rd hlen
  haveI := g.rb
  have rm := g.rm
  refine Tri.of (N := 44) (args := [.pointer (some ⟨b, 0, none⟩), .int .i64 x, .int .i64 y]) Try.func32 rfl rfl rfl ?_
  refine go ?_
  refine WO.callE (vs := [.pointer (some ⟨b, 0, none⟩)]) Try.func56 rfl rfl rfl rfl (rg_none _ g) ?_
  rintro v M ⟨rfl, rfl⟩
  refine go ?_
  refine WO.callE (vs := [.pointer (some ⟨b, 0, none⟩), .int .i64 x]) Try.func57 rfl rfl rfl rfl (rg_is _ x g) ?_
  rintro v M ⟨rfl, rfl⟩
  by_cases hx : 0 ≤ x ∧ x < n
  rotate_left
  · rw [decide_eq_false hx, if_neg (fun z : lkOk n x y => hx z.1), if_neg (fun z : lkOk n x y => hx z.1)]
    refine go ?_
    exact ⟨rfl, [_], ⟨Res.tmp rfl, trivial⟩, Gr b mb rs n m :: L, ent, rfl, rfl⟩
  rw [decide_eq_true hx]
  refine go ?_
  refine WO.callE (vs := [.pointer (some ⟨b, 0, none⟩), .int .i64 y]) Try.func57 rfl rfl rfl rfl (rg_is _ y g) ?_
  rintro v M ⟨rfl, rfl⟩
  by_cases hy : 0 ≤ y ∧ y < n
  rotate_left
  · rw [decide_eq_false hy, if_neg (fun z : lkOk n x y => hy z.2.1), if_neg (fun z : lkOk n x y => hy z.2.1)]
    refine go ?_
    exact ⟨rfl, [_], ⟨Res.tmp rfl, trivial⟩, Gr b mb rs n m :: L, ent, rfl, rfl⟩
  rw [decide_eq_true hy]
  by_cases hxy : x = y
  · rw [if_neg (fun z : lkOk n x y => z.2.2 hxy), if_neg (fun z : lkOk n x y => z.2.2 hxy)]
    refine go ?_
    exact ⟨rfl, [_], ⟨Res.tmp rfl, trivial⟩, Gr b mb rs n m :: L, ent, rfl, rfl⟩
  rw [if_pos (show lkOk n x y from ⟨hx, hy, hxy⟩), if_pos (show lkOk n x y from ⟨hx, hy, hxy⟩)]
  obtain ⟨i, rfl⟩ : ∃ i : Nat, x = i := ⟨x.toNat, by omega⟩
  obtain ⟨k, rfl⟩ : ∃ k : Nat, y = k := ⟨y.toNat, by omega⟩
  have g1 : ∀ i, i < n → (rs.map (rowS n))[i]? = some (rowS n (rs.getD i 0)) := fun i h => by
    simp [List.getD_eq_getElem?_getD, show i < rs.length by omega]
  have g2 := g1 i (by omega)
  have g3 := g1 k (by omega)
  rw [Int.toNat_natCast, Int.toNat_natCast]
  refine go ?_
  refine W.ent Gr.split ?_
  refine W.drawB #[0, 1, 3, 7, 0, 31, 63, 0, 0, 256, 768, 1792, 0, 7936, 16128, 0, 32767, 98303, 262143, 524287] [pts b (.cells [.bool true, .slice (some ⟨mb, 0, none⟩) n n].toArray 104), pts mb (.cells (rs.map (rowS n)).toArray 35)] (RowsH m n rs :: L) rfl (by kernel_rfl) (by kernel_rfl) (by kernel_rfl) ent ?_
  refine go ?_
  refine DB.q (v := rowS n (rs.getD i 0)) rfl rfl hl (SV.loadR i rfl (RdS.all (sz := 1) (n := n) (by simp [hlen])) (by omega) g2 eqq) ?_
  refine go ?_
  refine DB.q (v := rowS n (rs.getD k 0)) rfl rfl hl (SV.loadR k rfl (RdS.all (sz := 1) (n := n) (by simp [hlen])) (by omega) g3 eqq) ?_
  refine go ?_
  refine DB.v rfl rfl rfl hl hl ?_
  refine SV.setRow (a := i) (k := k) (m := m) (show _ = Value.pointer (some ⟨rs.getD i 0, k, none⟩) from by
    show Value.pointer (some ⟨rs.getD i 0, 0 + (k : Int).toNat * 1, none⟩) = _
    rw [show 0 + (k : Int).toNat * 1 = k by omega]) rfl tk (by omega) (by omega) ?_
  refine ⟨[], RowsH (set1 m i k) n rs :: L, ent, ?_⟩
  refine go ?_
  refine DB.v rfl rfl rfl hl hl ?_
  refine SV.setRow (a := k) (k := i) (m := set1 m i k) (show _ = Value.pointer (some ⟨rs.getD k 0, i, none⟩) from by
    show Value.pointer (some ⟨rs.getD k 0, 0 + (i : Int).toNat * 1, none⟩) = _
    rw [show 0 + (i : Int).toNat * 1 = i by omega]) rfl tk (by omega) (by omega) ?_
  refine ⟨[], RowsH (setM m i k) n rs :: L, ent, ?_⟩
  refine go ?_
  refine ⟨Gr b mb rs n (setM m i k) :: L, Gr.make, ?_⟩
  refine go ?_
  exact ⟨rfl, [_], ⟨Res.tmp rfl, trivial⟩, Gr b mb rs n (setM m i k) :: L, ent, rfl, rfl⟩
end Go.SL

/- Layer 34: those who are reached, walked. -/
namespace Go.SL
open Go.Proofs
set_option linter.unusedVariables false
set_option linter.unusedSimpArgs false
set_option linter.unusedSectionVars false
set_option maxRecDepth 10000
set_option maxHeartbeats 4000000
attribute [local irreducible] W WO SV OW SW Tri Ent Tk Has Src SrcK DA DB RdS Own RowsH Gr OwnT MapH

def mp (l : List Bt) : List (Int × Value) := l.map fun p => ((p.1 : Int), Value.int .i64 p.2.1)
def qv (l : List Bt) : List Value := l.map fun p => Value.int .i64 p.1
theorem mp_none {l : List Bt} {c : Nat} : c ∉ l.map (·.1) → mget (mp l) (c : Int) = none := by
  induction l with
  | nil => intro _; rfl
  | cons p l ih =>
    intro h
    simp only [List.map_cons, List.mem_cons, not_or] at h
    show (if (c : Int) = (p.1 : Int) then _ else mget (mp l) (c : Int)) = none
    rw [if_neg (by omega), ih h.2]
theorem mp_some {l : List Bt} {c : Nat} : c ∈ l.map (·.1) → ∃ (i : Nat) (x : Bt), l[i]? = some x ∧ x.1 = c ∧ mget (mp l) (c : Int) = some (.int .i64 x.2.1) := by
  induction l with
  | nil => intro h; cases h
  | cons p l ih =>
    intro h
    by_cases e : c = p.1
    · refine ⟨0, p, rfl, e.symm, ?_⟩
      show (if (c : Int) = (p.1 : Int) then _ else _) = _
      rw [if_pos (by omega)]
    · simp only [List.map_cons, List.mem_cons] at h
      obtain ⟨i, x, h1, h2, h3⟩ := ih (h.resolve_left e)
      refine ⟨i + 1, x, h1, h2, ?_⟩
      show (if (c : Int) = (p.1 : Int) then _ else mget (mp l) (c : Int)) = _
      rw [if_neg (by omega), h3]
theorem mp_add {l : List Bt} {c v h : Nat} (hc : c ∉ l.map (·.1)) : mset (mp l) (c : Int) (.int .i64 v) = mp (l ++ [(c, v, h)]) := by
  rw [mset_new _ _ _ (mp_none hc)]
  simp [mp]
theorem rg_from {b mb : Nat} {rs : List Nat} {n : Nat} {m : Nat → Nat → Bool} (L : List HP) (a : Nat) (ha : a < n) (ok : MtOk m n) (g : GrR b mb rs n m L) :
    TriE Try.prog 58 #[.pointer (some ⟨b, 0, none⟩), .int .i64 a] (fun v M => ∃ q l, v = .map (some q) ∧ Bf m n a l l.length 0 ∧ M = MapH q (Value.int .i64) (mp l) :: L) L := by
  have hn := ok.le
  have hlen := g.len
  refine Tri.of (N := 59) (args := [.pointer (some ⟨b, 0, none⟩), .int .i64 a]) Try.func58 rfl rfl rfl ?_
  refine go ?_
  refine WO.sv rfl ?_
  refine SV.mkMap (enc := Value.int .i64) fun q => ?_
  refine go ?_
  refine WO.sv rfl ?_
  refine SV.mapIns (enc := Value.int .i64) (i := (a : Int)) rfl rfl rfl ⟨_, rfl⟩ Tk.here ?_
  refine go ?_
  refine WO.sv rfl ?_
  refine SV.lit rfl rfl rfl parts rfl nl ?_
  intro qb
  refine go ?_
  refine W.ent (show Ent _ (OwnT 3 qb 0 1 1 (qv [(a, a, 0)]) :: MapH q (Value.int .i64) (mp [(a, a, 0)]) :: L) from OwnT.of rfl ent) ?_
  refine W.loopS 288230376151582656 rfl (fun s : List Bt × Nat × Nat × Nat × Nat => [(6, .slice (some ⟨s.2.2.1, s.2.2.2.1, none⟩) (s.1.length - s.2.1) s.2.2.2.2)])
    (fun s => OwnT 3 s.2.2.1 s.2.2.2.1 (s.1.length - s.2.1) s.2.2.2.2 (qv (s.1.drop s.2.1)) :: MapH q (Value.int .i64) (mp s.1) :: L)
    (fun s => Bf m n a s.1 s.2.1 0 ∧ s.1.length - s.2.1 ≤ s.2.2.2.2) (fun s => n - s.2.1) ([(a, a, 0)], 0, qb, 0, 1) ⟨rfl, trivial⟩ ⟨Bf.begin ha, Nat.le_refl _⟩ (Ent.app ent) ?_
  rintro ⟨l, h, qb1, off, cap⟩ bg ⟨bf, hcap⟩
  dsimp only at bf hcap ⊢
  have hll := bf.len
  by_cases hh : h < l.length
  rotate_left
  · obtain rfl : h = l.length := by have := bf.hle; omega
    refine go ?_
    exact ⟨rfl, [_], ⟨Res.tmp rfl, trivial⟩, MapH q (Value.int .i64) (mp l) :: L, ent, q, l, rfl, bf, rfl⟩
  obtain ⟨t, ht⟩ : ∃ t, l[h]? = some t := ⟨_, List.getElem?_eq_getElem hh⟩
  have hd : l.drop h = t :: l.drop (h + 1) := by
    rw [List.drop_eq_getElem_cons hh]
    rw [List.getElem?_eq_getElem hh] at ht
    rw [Option.some.inj ht]
  have hlh : l.length - h = (l.length - (h + 1)) + 1 := by omega
  rw [hd, hlh]
  rw [hlh] at hcap
  refine go ?_
  refine WO.sv rfl ?_
  refine SV.loadR (v := .int .i64 t.1) 0 rfl (OwnT.rd Tk.here (by simp [qv]) hcap) (by omega) rfl ?_
  refine go ?_
  refine WO.sv rfl ?_
  refine SV.cut (l := 1) (h := l.length - (h + 1) + 1) rfl (cutAt.of rfl rfl) rfl (by omega) (by omega) ?_
  intro off' ho
  rw [show l.length - (h + 1) + 1 - 1 = l.length - (h + 1) by omega]
  refine go ?_
  refine WO.callE (vs := [.pointer (some ⟨b, 0, none⟩)]) Try.func26 rfl rfl rfl rfl (rg_Len _ g.cons.cons) ?_
  rintro v M ⟨rfl, rfl⟩
  refine go ?_
  refine W.ent (show Ent _ (OwnT 3 qb1 off' (l.length - (h + 1)) (cap - 1) (qv (l.drop (h + 1))) :: MapH q (Value.int .i64) (mp l) :: L) from OwnT.tail (fun z => by omega)) ?_
  refine W.loopS 288230376017495872 rfl (fun s : Nat × Nat × Nat × Nat => [(27, .int .i64 (s.1 : Int)), (6, .slice (some ⟨s.2.1, s.2.2.1, none⟩) ((bfsIn m t.1 h l s.1).length - (h + 1)) s.2.2.2)])
    (fun s => OwnT 3 s.2.1 s.2.2.1 ((bfsIn m t.1 h l s.1).length - (h + 1)) s.2.2.2 (qv ((bfsIn m t.1 h l s.1).drop (h + 1))) :: MapH q (Value.int .i64) (mp (bfsIn m t.1 h l s.1)) :: L)
    (fun s => s.1 ≤ n ∧ (bfsIn m t.1 h l s.1).length - (h + 1) ≤ s.2.2.2) (fun s => n - s.1) (0, qb1, off', cap - 1) ⟨rfl, rfl, trivial⟩ ⟨Nat.zero_le _, by show l.length - (h + 1) ≤ cap - 1; omega⟩ (Ent.app ent) ?_
  clear ho hcap hd hlh
  rintro ⟨c, qb2, off2, cap2⟩ bg2 ⟨hc, hcap⟩
  dsimp only at hc hcap ⊢
  by_cases hcn : c < n
  rotate_left
  · obtain rfl : c = n := by omega
    obtain ⟨bf2, ht2⟩ := bf.inner ht c (Nat.le_refl _)
    have hh2 := (List.getElem?_eq_some_iff.1 ht2).1
    refine go ?_
    exact ⟨(bfsIn m t.1 h l c, h + 1, qb2, off2, cap2), ⟨rfl, trivial⟩, rfl, ⟨bf2.next (fun i k z => (ok.bd i k z).2) hh2, hcap⟩, by dsimp only; have := bf2.len; omega, Ent.app ent⟩
  obtain ⟨bf2, ht2⟩ := bf.inner ht c hc
  have hh2 := (List.getElem?_eq_some_iff.1 ht2).1
  have hstep : bfsIn m t.1 h l (c + 1) = if m t.1 c = true ∧ c ∉ (bfsIn m t.1 h l c).map (·.1) then bfsIn m t.1 h l c ++ [(c, t.1, h)] else bfsIn m t.1 h l c := rfl
  have ht1 : t.1 < n := bf2.lt h t ht2
  have hl2 := bf2.len
  generalize bfsIn m t.1 h l c = l2 at *
  refine go ?_
  refine WO.sv rfl ?_
  refine SV.lookup2 (enc := Value.int .i64) (i := (c : Int)) (l := mp l2) (z := .int .i64 0) rfl rfl ⟨_, rfl⟩ (by kernel_rfl) (Tk.there Tk.here) ?_
  by_cases hin : c ∈ l2.map (·.1)
  · obtain ⟨i0, x0, _, _, e0⟩ := mp_some hin
    rw [if_neg (fun z => z.2 hin)] at hstep
    rw [e0]
    refine go ?_
    exact ⟨(c + 1, qb2, off2, cap2), ⟨rfl, by dsimp only; rw [hstep]; rfl, trivial⟩, rfl, ⟨by dsimp only; omega, by dsimp only; rw [hstep]; exact hcap⟩, by dsimp only; omega, by dsimp only; rw [hstep]; exact Ent.app ent⟩
  rw [mp_none hin]
  haveI := g.rb
  have rm := g.rm
  have rr := g.rr t.1 ht1
  have g1 : (rs.map (rowS n))[t.1]? = some (rowS n (rs.getD t.1 0)) := by
    simp [List.getD_eq_getElem?_getD, show t.1 < rs.length by omega]
  have g2 := rowV_get m n t.1 c hcn
  refine go ?_
  refine WO.sv rfl ?_
  refine SV.loadR (v := rowS n (rs.getD t.1 0)) t.1 rfl rds (by omega) g1 ?_
  refine go ?_
  refine WO.sv rfl ?_
  refine SV.loadR (v := .bool (m t.1 c)) c rfl rds (by omega) g2 ?_
  cases hm : m t.1 c with
  | false =>
    rw [if_neg (fun z => by rw [hm] at z; cases z.1)] at hstep
    refine go ?_
    exact ⟨(c + 1, qb2, off2, cap2), ⟨rfl, by dsimp only; rw [hstep]; rfl, trivial⟩, rfl, ⟨by dsimp only; omega, by dsimp only; rw [hstep]; exact hcap⟩, by dsimp only; omega, by dsimp only; rw [hstep]; exact Ent.app ent⟩
  | true =>
    rw [if_pos ⟨hm, hin⟩] at hstep
    refine go ?_
    refine WO.sv rfl ?_
    refine SV.mapPut (enc := Value.int .i64) (i := (c : Int)) (v := .int .i64 t.1) (l := mp l2) rfl rfl rfl ⟨_, rfl⟩ (Tk.there Tk.here) ?_
    rw [mp_add (h := h) hin]
    refine go ?_
    refine WO.sv rfl ?_
    refine SV.lit rfl rfl rfl parts rfl nl ?_
    intro nb
    refine go ?_
    refine WO.sv rfl ?_
    refine SV.appendT (m := 1) (ys := [.int .i64 c]) rfl rfl tk (RdS.src (RdS.all (sz := 1) (n := 1) rfl)) rfl (by decide) rfl (by omega) rfl ?_
    have e1 : (l2 ++ [(c, t.1, h)]).length - (h + 1) = l2.length - (h + 1) + 1 := by rw [List.length_append, List.length_singleton]; omega
    have e2 : qv ((l2 ++ [(c, t.1, h)]).drop (h + 1)) = qv (l2.drop (h + 1)) ++ [.int .i64 c] := by
      rw [List.drop_append_of_le_length (by omega)]; simp [qv]
    intro qb3 off3 cap3 hc3
    refine go ?_
    refine ⟨(c + 1, qb3, off3, cap3), ⟨rfl, ?_, trivial⟩, rfl, ⟨by dsimp only; omega, ?_⟩, by dsimp only; omega, ?_⟩
    · dsimp only; rw [hstep, e1]; rfl
    · dsimp only; rw [hstep, e1]; exact hc3
    · dsimp only; rw [hstep, e1, e2]; exact Ent.app ent
end Go.SL

/- Layer 34: a row is turned round; a way, walked. -/
namespace Go.SL
open Go.Proofs
set_option linter.unusedVariables false
set_option linter.unusedSimpArgs false
set_option linter.unusedSectionVars false
set_option maxRecDepth 10000
set_option maxHeartbeats 4000000
attribute [local irreducible] W WO SV OW SW Tri Ent Tk Has Src SrcK DA DB DP RdS Own RowsH Gr OwnT MapH

def iv (w : List Nat) : List Value := w.map fun k : Nat => Value.int .i64 (k : Int)
/-- Numbers of one's own. -/
def OIs (a : Option Addr) (c : Nat) (w : List Nat) : HP := Own 3 1 (.slice a w.length c) w.length (iv w)
theorem iv_get (w : List Nat) (k : Nat) (h : k < w.length) : (iv w)[k]? = some (.int .i64 (w.getD k 0)) := by
  simp [iv, List.getD_eq_getElem?_getD, h]
/-- The first ones and the last ones have changed places. -/
def SwAt (w : List Nat) (i : Nat) (u : List Nat) : Prop := u.length = w.length ∧ ∀ k, k < w.length → u.getD k 0 = if k < i ∨ w.length - i ≤ k then w.getD (w.length - 1 - k) 0 else w.getD k 0
theorem getD_setN {l : List Nat} {k j u : Nat} (hk : k < l.length) : (l.set k u).getD j 0 = if j = k then u else l.getD j 0 := by
  simp only [List.getD_eq_getElem?_getD, List.getElem?_set]
  by_cases h : k = j
  · subst h; simp [hk]
  · have h' : ¬ j = k := fun e => h e.symm
    simp [h, h']
theorem SwAt.step {w u : List Nat} {i : Nat} (h : 2 * i + 1 < w.length) (s : SwAt w i u) : SwAt w (i + 1) ((u.set i (u.getD (w.length - 1 - i) 0)).set (w.length - 1 - i) (u.getD i 0)) := by
  obtain ⟨s1, s2⟩ := s
  refine ⟨by simp [s1], fun k hk => ?_⟩
  rw [getD_setN (by rw [List.length_set]; omega), getD_setN (by omega)]
  have a1 := s2 i (by omega)
  have a2 := s2 (w.length - 1 - i) (by omega)
  rw [if_neg (by omega)] at a1 a2
  by_cases e1 : k = w.length - 1 - i
  · rw [if_pos e1, if_pos (by omega), a1]
    congr 1; omega
  · rw [if_neg e1]
    by_cases e2 : k = i
    · rw [if_pos e2, if_pos (by omega), a2]
      congr 1; omega
    · rw [if_neg e2, s2 k hk]
      by_cases q : k < i ∨ w.length - i ≤ k
      · rw [if_pos q, if_pos (by omega)]
      · rw [if_neg q, if_neg (by omega)]
theorem SwAt.done {w u : List Nat} {i : Nat} (h : w.length ≤ 2 * i + 1) (s : SwAt w i u) : u = w.reverse := by
  obtain ⟨s1, s2⟩ := s
  apply List.ext_getElem
  · simp [s1]
  · intro k h1 h2
    have := s2 k (by omega)
    have e0 : u.getD k 0 = u[k] := by simp [List.getD_eq_getElem?_getD, h1]
    rw [e0] at this
    rw [this, List.getElem_reverse]
    have e1 : w.getD (w.length - 1 - k) 0 = w[w.length - 1 - k]'(by omega) := by simp [List.getD_eq_getElem?_getD, show w.length - 1 - k < w.length by omega]
    by_cases q : k < i ∨ w.length - i ≤ k
    · rw [if_pos q, e1]
    · rw [if_neg q]
      have : k = w.length - 1 - k := by omega
      rw [← e1]; congr 1
theorem iv_set (u : List Nat) (k x : Nat) : (iv u).set k (.int .i64 x) = iv (u.set k x) := by simp [iv, List.map_set]
theorem f_Reverse (a : Option Addr) (c : Nat) (w : List Nat) (R : List HP) (hw : w.length ≤ 1000000) (sa : SomeA a w.length) :
    TriE Try.prog 59 #[.slice a w.length c] (fun v M => M = OIs a c w.reverse :: R) (OIs a c w :: R) := by
  refine Tri.of (N := 28) (args := [.slice a w.length c]) Try.func59 rfl rfl rfl ?_
  refine go ?_
  refine W.loopS 268435340 rfl (fun s : Nat × List Nat => [(2, .int .i64 (s.1 : Int)), (3, .int .i64 ((w.length : Int) - 1 - s.1))]) (fun s => Own 3 1 (.slice a w.length c) w.length (iv s.2) :: R) (fun s => SwAt w s.1 s.2 ∧ s.1 ≤ w.length) (fun s => w.length - s.1) (0, w)
    ⟨rfl, by show Value.int .i64 ((w.length : Int) - 1) = Value.int .i64 ((w.length : Int) - 1 - ((0 : Nat) : Int)); congr 1; omega, trivial⟩ ⟨⟨rfl, fun k hk => by rw [if_neg (by omega)]⟩, Nat.zero_le _⟩ (Ent.app ent) ?_
  rintro ⟨i, u⟩ bg ⟨s, hi⟩
  dsimp only at s hi ⊢
  have hul := s.1
  by_cases h : (i : Int) < (w.length : Int) - 1 - (i : Int)
  · obtain ⟨b, rfl⟩ := sa (by omega)
    refine go ?_
    refine W.drawP #[0, 0, 0, 0, 0, 0, 48, 112, 0, 0, 768, 1792, 4083, 8179, 16383, 32767] rfl (by kernel_rfl) (by kernel_rfl) (by kernel_rfl) ?_
    have rd0 : RdS 1 (some ⟨b, 0, none⟩) w.length (iv u) (Own 3 1 (.slice (some ⟨b, 0, none⟩) w.length c) w.length (iv u) :: R) := RdS.ownS Tk.here (fun _ => ⟨b, rfl⟩) (by simp [iv]; omega)
    refine DP.n (v := .slice (some ⟨b, 0, none⟩) w.length c) rfl rfl (SV.move rfl eqq) ?_
    refine DP.n (v := .int .i64 (i : Int)) rfl rfl (SV.move rfl eqq) ?_
    refine DP.n (v := .slice (some ⟨b, 0, none⟩) w.length c) rfl rfl (SV.move rfl eqq) ?_
    refine DP.n (v := .int .i64 ((w.length : Int) - 1 - i)) rfl rfl (SV.move rfl eqq) ?_
    refine DP.n (v := .slice (some ⟨b, 0, none⟩) w.length c) rfl rfl (SV.move rfl eqq) ?_
    refine DP.n (v := .int .i64 ((w.length : Int) - 1 - i)) rfl rfl (SV.move rfl eqq) ?_
    refine DP.n (v := .pointer (some ⟨b, 0 + ((w.length : Int) - 1 - i).toNat * 1, none⟩)) rfl rfl (SV.indexAddr rfl rfl (by omega) (by omega) eqq) ?_
    refine DP.q (v := .int .i64 (u.getD (w.length - 1 - i) 0 : Nat)) rfl (by kernel_rfl) rfl (SV.loadR (w.length - 1 - i) rfl rd0 (by omega) (iv_get u _ (by omega)) eqq) ?_
    refine DP.n (v := .slice (some ⟨b, 0, none⟩) w.length c) rfl rfl (SV.move rfl eqq) ?_
    refine DP.n (v := .int .i64 (i : Int)) rfl rfl (SV.move rfl eqq) ?_
    refine DP.n (v := .pointer (some ⟨b, 0 + (i : Int).toNat * 1, none⟩)) rfl rfl (SV.indexAddr rfl rfl (by omega) (by omega) eqq) ?_
    refine DP.q (v := .int .i64 (u.getD i 0 : Nat)) rfl (by kernel_rfl) rfl (SV.loadR i rfl rd0 (by omega) (iv_get u _ (by omega)) eqq) ?_
    refine DP.n (v := .pointer (some ⟨b, 0 + (i : Int).toNat * 1, none⟩)) rfl rfl (SV.indexAddr rfl rfl (by omega) (by omega) eqq) ?_
    refine DP.act rfl rfl rfl ?_
    refine SV.storeO (v := .int .i64 (u.getD (w.length - 1 - i) 0 : Nat)) i rfl Tk.here (by omega) rfl rfl (by simp [iv]; omega) (iv_set _ _ _) ?_
    refine DP.n (v := .pointer (some ⟨b, 0 + ((w.length : Int) - 1 - i).toNat * 1, none⟩)) rfl rfl (SV.indexAddr rfl rfl (by omega) (by omega) eqq) ?_
    refine DP.act rfl rfl rfl ?_
    refine SV.storeO (v := .int .i64 (u.getD i 0 : Nat)) (w.length - 1 - i) rfl Tk.here (by omega) rfl rfl (by simp [iv]; omega) (iv_set _ _ _) ?_
    refine DP.nil ?_
    refine ⟨_, Ent.refl _, ?_⟩
    refine go ?_
    refine ⟨(i + 1, (u.set i (u.getD (w.length - 1 - i) 0)).set (w.length - 1 - i) (u.getD i 0)), ⟨rfl, ?_, trivial⟩, rfl, ⟨s.step (by omega), by dsimp only; omega⟩, by dsimp only; omega, Ent.app ent⟩
    show Value.int .i64 ((w.length : Int) - 1 - (i : Int) - 1) = Value.int .i64 ((w.length : Int) - 1 - ((i + 1 : Nat) : Int))
    congr 1; omega
  · have := s.done (by omega)
    subst this
    refine go ?_
    exact ⟨rfl, [], trivial, OIs a c w.reverse :: R, by unfold OIs; rw [List.length_reverse]; exact ent, rfl⟩
end Go.SL

/- Layer 34: a way, and how far it is, walked. -/
namespace Go.SL
open Go.Proofs
set_option linter.unusedVariables false
set_option linter.unusedSimpArgs false
set_option linter.unusedSectionVars false
set_option maxRecDepth 10000
set_option maxHeartbeats 4000000

theorem Own.ofPts {E : TypeId} {b n : Nat} {xs : List Value} {L R : List HP} (hl : xs.length = n) (e : Ent L (pts b (.cells xs.toArray E) :: R)) : Ent L (Own E 1 (.slice (some ⟨b, 0, none⟩) n n) n xs :: R) := fun h x => by
  have y := e h x
  refine own_of (sp := []) (fr := (0, 0)) (b := b) (cap := n) ⟨rfl, Nat.le_refl _, by omega, by simp, .inl (Nat.le_refl _)⟩ ?_
  rw [List.append_nil]; exact y
attribute [local irreducible] W WO SV OW SW Tri Ent Tk Has Src SrcK DA DB DP RdS Own RowsH Gr OwnT MapH

def chv (l : List Bt) (i : Nat) : List Nat := (ich l i).map (vx l)
def inG (n : Nat) (x : Int) : Prop := 0 ≤ x ∧ x < n
instance (n : Nat) (x : Int) : Decidable (inG n x) := by unfold inG; infer_instance
/-- What a way is. -/
def WayP (m : Nat → Nat → Bool) (n : Nat) (x y : Int) (w : List Nat) : Prop :=
  (w = [] ∧ (¬inG n x ∨ ¬inG n y ∨ (inG n x ∧ inG n y ∧ Dist m x.toNat y.toNat (-1)))) ∨
  (inG n x ∧ inG n y ∧ ∃ l i, Bf m n x.toNat l l.length 0 ∧ i < l.length ∧ vx l i = y.toNat ∧ w = chv l i)
theorem ich_le {m : Nat → Nat → Bool} {n a : Nat} {l : List Bt} (bf : Bf m n a l l.length 0) (i : Nat) : i < l.length → (ich l i).length ≤ i + 1 := by
  induction i using Nat.strongRecOn with
  | ind i ih =>
    intro hi
    by_cases h0 : i = 0
    · subst h0; rw [ich_zero]; simp
    · have p := bf.pix_lt (show 0 < i by omega) hi
      have := ih _ p (by omega)
      rw [ich_pos p, List.length_append, List.length_singleton]; omega
theorem rg_Way {b mb : Nat} {rs : List Nat} {n : Nat} {m : Nat → Nat → Bool} (L : List HP) (x y : Int) (ok : MtOk m n) (g : GrR b mb rs n m L) :
    TriE Try.prog 31 #[.pointer (some ⟨b, 0, none⟩), .int .i64 x, .int .i64 y] (fun v M => ∃ xa c w, v = .slice xa w.length c ∧ SomeA xa w.length ∧ M = OIs xa c w :: L ∧ WayP m n x y w) L := by
  have hn := ok.le
  refine Tri.of (N := 53) (args := [.pointer (some ⟨b, 0, none⟩), .int .i64 x, .int .i64 y]) Try.func31 rfl rfl rfl ?_
  have nilW : ∀ P : Prop, P → (¬inG n x ∨ ¬inG n y ∨ (inG n x ∧ inG n y ∧ Dist m x.toNat y.toNat (-1))) → ∃ xa c w, Value.slice none 0 0 = .slice xa w.length c ∧ SomeA xa w.length ∧ OIs none 0 [] :: L = OIs xa c w :: L ∧ WayP m n x y w :=
    fun _ _ h => ⟨none, 0, [], rfl, fun z => absurd rfl z, rfl, .inl ⟨rfl, h⟩⟩
  have eN : Ent L (OIs none 0 [] :: L) := Ent.ownNil ent
  refine go ?_
  refine W.scope ?_
  refine go ?_
  refine WO.callE (vs := [.pointer (some ⟨b, 0, none⟩), .int .i64 x]) Try.func57 rfl rfl rfl rfl (rg_is _ x g) ?_
  rintro v L ⟨rfl, rfl⟩
  by_cases hx : 0 ≤ x ∧ x < (n : Int)
  rotate_left
  · rw [decide_eq_false hx]
    refine go ?_
    exact ⟨rfl, [_], ⟨Res.tmp rfl, trivial⟩, _, eN, nilW True trivial (.inl hx)⟩
  rw [decide_eq_true hx]
  refine go ?_
  refine WO.callE (vs := [.pointer (some ⟨b, 0, none⟩), .int .i64 y]) Try.func57 rfl rfl rfl rfl (rg_is _ y g) ?_
  rintro v L ⟨rfl, rfl⟩
  by_cases hy : 0 ≤ y ∧ y < (n : Int)
  rotate_left
  · rw [decide_eq_false hy]
    refine go ?_
    exact ⟨rfl, [_], ⟨Res.tmp rfl, trivial⟩, _, eN, nilW True trivial (.inr (.inl hy))⟩
  rw [decide_eq_true hy]
  have hx' := hx
  have hy' := hy
  obtain ⟨a, rfl⟩ : ∃ a : Nat, x = a := ⟨x.toNat, by omega⟩
  obtain ⟨e, rfl⟩ : ∃ e : Nat, y = e := ⟨y.toNat, by omega⟩
  refine go ?_
  refine WO.callE (vs := [.pointer (some ⟨b, 0, none⟩), .int .i64 a]) Try.func58 rfl rfl rfl rfl (rg_from _ a (by omega) ok g) ?_
  rintro v M ⟨q, l, rfl, bf, rfl⟩
  refine go ?_
  refine WO.sv rfl ?_
  refine SV.lookup2 (enc := Value.int .i64) (i := (e : Int)) (l := mp l) (z := .int .i64 0) rfl rfl ⟨_, rfl⟩ (by kernel_rfl) Tk.here ?_
  by_cases hin : e ∈ l.map (·.1)
  rotate_left
  · rw [mp_none hin]
    refine go ?_
    exact ⟨rfl, [_], ⟨Res.tmp rfl, trivial⟩, OIs none 0 [] :: L, Ent.ownNil ent, nilW True trivial (.inr (.inr ⟨hx, hy, bf.none hin⟩))⟩
  obtain ⟨i0, x0, _, _, e0⟩ := mp_some hin
  rw [e0]
  obtain ⟨ib, hib, hvb⟩ := bf.place hin
  refine go ?_
  refine WO.sv rfl ?_
  refine SV.lit rfl rfl rfl parts rfl nl ?_
  intro nb
  refine go ?_
  refine W.ent (show Ent _ (Own 3 1 (.slice (some ⟨nb, 0, none⟩) 1 1) 1 (iv [e]) :: MapH q (Value.int .i64) (mp l) :: L) from Own.ofPts rfl ent) ?_
  refine W.loopS 1125865547107328 rfl (fun s : Nat × List Nat × Option Addr × Nat => [(10, .slice s.2.2.1 s.2.1.length s.2.2.2)])
    (fun s => Own 3 1 (.slice s.2.2.1 s.2.1.length s.2.2.2) s.2.1.length (iv s.2.1) :: MapH q (Value.int .i64) (mp l) :: L)
    (fun s => s.1 < l.length ∧ SomeA s.2.2.1 s.2.1.length ∧ ∃ o, s.2.1 = o ++ [vx l s.1] ∧ chv l ib = chv l s.1 ++ o.reverse) (fun s => s.1 + 1) (ib, [e], some ⟨nb, 0, none⟩, 1) ⟨rfl, trivial⟩ ⟨hib, fun _ => ⟨nb, rfl⟩, [], by show [e] = [vx l ib]; rw [hvb], by simp⟩ (Ent.app ent) ?_
  rintro ⟨i, out, xa, cc⟩ bg ⟨hi, sa, o, ho, hch⟩
  dsimp only at hi sa ho hch ⊢
  have hol : out.length = o.length + 1 := by rw [ho]; simp
  have hbig : out.length ≤ 17 := by
    have h1 := congrArg List.length hch
    have h2 := ich_le bf ib hib
    have h3 := bf.len
    have h4 := ich_len l i
    simp only [chv, List.length_append, List.length_map, List.length_reverse] at h1
    omega
  obtain ⟨ob, rfl⟩ := sa (by omega)
  have hg : (iv out)[out.length - 1]? = some (.int .i64 (vx l i : Nat)) := by
    rw [iv_get out _ (by omega)]
    congr 2
    rw [ho]; simp
  refine go ?_
  refine WO.sv rfl ?_
  refine SV.loadR (v := .int .i64 (vx l i : Nat)) (out.length - 1) rfl (RdS.ownS Tk.here (fun _ => ⟨ob, rfl⟩) (by simp [iv])) (by omega) hg ?_
  by_cases hia : vx l i = a
  · have h0 : i = 0 := bf.inj hi bf.pos (by rw [hia, bf.vx0])
    subst h0
    have hfin : chv l ib = out.reverse := by
      rw [hch, ho]
      simp [chv, ich_zero]
    refine go ?_
    refine WO.callE (vs := [.slice (some ⟨ob, 0, none⟩) out.length cc]) Try.func59 rfl rfl rfl rfl (f_Reverse (some ⟨ob, 0, none⟩) cc out (MapH q (Value.int .i64) (mp l) :: L) (by omega) sa) ?_
    rintro v M rfl
    refine go ?_
    refine ⟨rfl, [_], ⟨Res.tmp rfl, trivial⟩, OIs (some ⟨ob, 0, none⟩) cc out.reverse :: L, ent, some ⟨ob, 0, none⟩, cc, out.reverse, ?_, fun _ => ⟨ob, rfl⟩, rfl, .inr ⟨hx, hy, l, ib, bf, hib, hvb, hfin.symm⟩⟩
    rw [List.length_reverse]; rfl
  have h0 : 0 < i := by
    rcases Nat.eq_zero_or_pos i with z | z
    · subst z; exact absurd bf.vx0 hia
    · exact z
  have hp := bf.pix_lt h0 hi
  obtain ⟨xi, x1, x2, x3⟩ := get_of hi
  obtain ⟨_, _, yp, y1, y2, _⟩ := bf.par i xi x1 h0
  have hvp : vx l (pix l i) = xi.2.1 := by rw [x3, (at_vx y1).1, y2]
  have hmem : vx l i ∈ l.map (·.1) := List.mem_map.2 ⟨xi, List.mem_of_getElem? x1, x2.symm⟩
  obtain ⟨i2, x4, x5, x6, x7⟩ := mp_some hmem
  have hi2 : i2 = i := bf.uniq i2 i x4 xi x5 x1 (by omega)
  subst hi2
  obtain rfl : x4 = xi := by rw [x5] at x1; exact Option.some.inj x1
  rw [← hvp] at x7
  refine go ?_
  refine WO.sv rfl ?_
  refine SV.lookup1 (enc := Value.int .i64) (i := ((vx l i2 : Nat) : Int)) (l := mp l) (z := .int .i64 0) rfl rfl ⟨_, rfl⟩ (by kernel_rfl) (Tk.there Tk.here) ?_
  rw [x7]
  refine go ?_
  refine WO.sv rfl ?_
  refine SV.lit rfl rfl rfl parts rfl nl ?_
  intro nb2
  refine go ?_
  refine WO.sv rfl ?_
  refine SV.append (m := 1) (ys := [.int .i64 (vx l (pix l i2) : Nat)]) rfl rfl rfl (Tk.there Tk.here) (RdS.src (RdS.all (sz := 1) (n := 1) rfl)) rfl rfl (by omega) rfl ?_
  intro a' c' ha'
  have e1 : (out ++ [vx l (pix l i2)]).length = out.length + 1 := by simp
  have e2 : iv (out ++ [vx l (pix l i2)]) = iv out ++ [.int .i64 (vx l (pix l i2) : Nat)] := by simp [iv]
  have e3 : chv l i2 = chv l (pix l i2) ++ [vx l i2] := by unfold chv; rw [ich_pos hp]; simp
  refine go ?_
  refine ⟨(pix l i2, out ++ [vx l (pix l i2)], a', c'), ⟨?_, trivial⟩, rfl, ⟨by dsimp only; omega, ?_, out, rfl, ?_⟩, by dsimp only; omega, ?_⟩
  · dsimp only; rw [e1]; rfl
  · dsimp only; rw [e1]; exact ha'
  · dsimp only; rw [hch, e3, ho]; simp
  · dsimp only; rw [e1, e2]; exact Ent.app ent
/-- How far one is. -/
def FarP (m : Nat → Nat → Bool) (n : Nat) (x y f : Int) : Prop := ((¬inG n x ∨ ¬inG n y) ∧ f = -1) ∨ (inG n x ∧ inG n y ∧ Dist m x.toNat y.toNat f ∧ f < 99)
theorem WayP.far {m : Nat → Nat → Bool} {n : Nat} {x y : Int} {w : List Nat} (hn : n ≤ 16) (h : WayP m n x y w) : FarP m n x y ((w.length : Int) - 1) := by
  rcases h with ⟨rfl, h | h | ⟨h1, h2, h3⟩⟩ | ⟨h1, h2, l, i, bf, hi, hv, rfl⟩
  · exact .inl ⟨.inl h, rfl⟩
  · exact .inl ⟨.inr h, rfl⟩
  · exact .inr ⟨h1, h2, h3, by decide⟩
  · have d := bf.dist hi
    have a1 := ich_len l i
    have a2 := ich_le bf i hi
    have a3 := bf.len
    rw [hv] at d
    have e : (((chv l i).length : Nat) : Int) - 1 = ((ich l i).length - 1 : Nat) := by simp only [chv, List.length_map]; omega
    rw [e]
    exact .inr ⟨h1, h2, d, by omega⟩
theorem FarP.same {m : Nat → Nat → Bool} {n : Nat} {x y f g : Int} (h : FarP m n x y f) (k : FarP m n x y g) : f = g := by
  rcases h with ⟨h1, h2⟩ | ⟨h1, h2, h3, _⟩ <;> rcases k with ⟨k1, k2⟩ | ⟨k1, k2, k3, _⟩
  · omega
  · exact absurd h1 (fun z => z.elim (fun z => z k1) (fun z => z k2))
  · exact absurd k1 (fun z => z.elim (fun z => z h1) (fun z => z h2))
  · exact h3.same k3
theorem rg_Far {b mb : Nat} {rs : List Nat} {n : Nat} {m : Nat → Nat → Bool} (L : List HP) (x y : Int) (ok : MtOk m n) (g : GrR b mb rs n m L) :
    TriE Try.prog 29 #[.pointer (some ⟨b, 0, none⟩), .int .i64 x, .int .i64 y] (fun v M => ∃ f : Int, v = .int .i64 f ∧ FarP m n x y f ∧ M = L) L := by
  have hn := ok.le
  refine Tri.of (N := 13) (args := [.pointer (some ⟨b, 0, none⟩), .int .i64 x, .int .i64 y]) Try.func29 rfl rfl rfl ?_
  refine go ?_
  refine WO.callE (vs := [.pointer (some ⟨b, 0, none⟩), .int .i64 x, .int .i64 y]) Try.func31 rfl rfl rfl rfl (rg_Way _ x y ok g) ?_
  rintro v M ⟨xa, c, w, rfl, sa, rfl, hw⟩
  have hf := hw.far hn
  have hl : w.length ≤ 99 := by
    rcases hf with ⟨_, z⟩ | ⟨_, _, _, z⟩ <;> omega
  refine go ?_
  exact ⟨rfl, [_], ⟨Res.tmp rfl, trivial⟩, L, ent, (w.length : Int) - 1, rfl, hf, rfl⟩
end Go.SL

/- Layer 34: how far, as a number; the widest, walked. -/
namespace Go.SL
open Go.Proofs
set_option linter.unusedVariables false
set_option linter.unusedSimpArgs false
set_option linter.unusedSectionVars false
set_option maxRecDepth 10000
set_option maxHeartbeats 4000000
attribute [local irreducible] W WO SV OW SW Tri Ent Tk Has Src SrcK DA DB DP RdS Own RowsH Gr OwnT MapH OIs

theorem Dist.ex (m : Nat → Nat → Bool) (a b : Nat) : ∃ f : Int, Dist m a b f := by
  by_cases h : ∃ k, Wk m a b k
  · obtain ⟨k, hk⟩ := h
    induction k using Nat.strongRecOn with
    | ind k ih =>
      by_cases q : ∃ j, j < k ∧ Wk m a b j
      · obtain ⟨j, h1, h2⟩ := q
        exact ih j h1 h2
      · exact ⟨k, .inr ⟨by omega, by rw [Int.toNat_natCast]; exact hk, fun j hj => by
          have : ¬ j < k := fun z => q ⟨j, z, hj⟩
          omega⟩⟩
  · exact ⟨-1, .inl ⟨rfl, fun k z => h ⟨k, z⟩⟩⟩
noncomputable def dst (m : Nat → Nat → Bool) (a b : Nat) : Int := Classical.choose (Dist.ex m a b)
theorem dst_is (m : Nat → Nat → Bool) (a b : Nat) : Dist m a b (dst m a b) := Classical.choose_spec (Dist.ex m a b)
theorem dst_eq {m : Nat → Nat → Bool} {a b : Nat} {f : Int} (h : Dist m a b f) : f = dst m a b := h.same (dst_is m a b)
noncomputable def far (m : Nat → Nat → Bool) (n : Nat) (x y : Int) : Int := if inG n x ∧ inG n y then dst m x.toNat y.toNat else -1
theorem FarP.eq {m : Nat → Nat → Bool} {n : Nat} {x y f : Int} (h : FarP m n x y f) : f = far m n x y ∧ -1 ≤ f ∧ f < 99 := by
  unfold far
  rcases h with ⟨h1, h2⟩ | ⟨h1, h2, h3, h4⟩
  · rw [if_neg (fun z => h1.elim (fun q => q z.1) (fun q => q z.2))]; omega
  · rw [if_pos ⟨h1, h2⟩]; exact ⟨dst_eq h3, h3.ge, h4⟩
theorem far_in (m : Nat → Nat → Bool) {n a b : Nat} (ha : a < n) (hb : b < n) : far m n a b = dst m a b := by
  unfold far inG
  rw [if_pos (by omega)]; rfl
theorem rg_far {b mb : Nat} {rs : List Nat} {n : Nat} {m : Nat → Nat → Bool} (L : List HP) (x y : Int) (ok : MtOk m n) (g : GrR b mb rs n m L) :
    TriE Try.prog 29 #[.pointer (some ⟨b, 0, none⟩), .int .i64 x, .int .i64 y] (fun v M => v = .int .i64 (far m n x y) ∧ M = L ∧ -1 ≤ far m n x y ∧ far m n x y < 99) L :=
  Tri.mono (rg_Far L x y ok g) fun v L' ⟨M, e, f, h1, h2, h3⟩ => by
    obtain ⟨q1, q2, q3⟩ := h2.eq
    subst q1
    exact ⟨M, e, h1, h3, q2, q3⟩
noncomputable def wdI (m : Nat → Nat → Bool) (a : Nat) (w : Int) : Nat → Int
  | 0 => w
  | b + 1 => max (wdI m a w b) (dst m a b)
noncomputable def wdO (m : Nat → Nat → Bool) (n : Nat) : Nat → Int
  | 0 => 0
  | a + 1 => wdI m a (wdO m n a) n
theorem rg_Wide {b mb : Nat} {rs : List Nat} {n : Nat} {m : Nat → Nat → Bool} (L : List HP) (ok : MtOk m n) (g : GrR b mb rs n m L) :
    TriE Try.prog 33 #[.pointer (some ⟨b, 0, none⟩)] (fun v M => v = .int .i64 (wdO m n n) ∧ M = L) L := by
  have hn := ok.le
  refine Tri.of (N := 25) (args := [.pointer (some ⟨b, 0, none⟩)]) Try.func33 rfl rfl rfl ?_
  refine go ?_
  refine WO.callE (vs := [.pointer (some ⟨b, 0, none⟩)]) Try.func26 rfl rfl rfl rfl (rg_Len _ g) ?_
  rintro v L ⟨rfl, rfl⟩
  refine go ?_
  refine W.loopS 16777016 rfl (fun a : Nat => [(8, .int .i64 (a : Int)), (3, .int .i64 (wdO m n a))]) (fun _ => L) (fun a => a ≤ n) (fun a => n - a) 0 ⟨rfl, rfl, trivial⟩ (Nat.zero_le _) (Ent.app ent) ?_
  intro a bg ha
  by_cases h : a < n
  rotate_left
  · obtain rfl : a = n := by omega
    refine go ?_
    exact ⟨rfl, [_], ⟨Res.tmp rfl, trivial⟩, L, ent, rfl, rfl⟩
  refine go ?_
  refine WO.callE (vs := [.pointer (some ⟨b, 0, none⟩)]) Try.func26 rfl rfl rfl rfl (rg_Len _ g) ?_
  rintro v L ⟨rfl, rfl⟩
  refine go ?_
  refine W.loopS 8380456 rfl (fun c : Nat => [(13, .int .i64 (c : Int)), (3, .int .i64 (wdI m a (wdO m n a) c))]) (fun _ => L) (fun c => c ≤ n) (fun c => n - c) 0 ⟨rfl, rfl, trivial⟩ (Nat.zero_le _) (Ent.app ent) ?_
  intro c bg2 hc
  by_cases h2 : c < n
  rotate_left
  · obtain rfl : c = n := by omega
    refine go ?_
    exact ⟨a + 1, ⟨rfl, rfl, trivial⟩, rfl, by omega, by omega, Ent.app ent⟩
  refine go ?_
  refine WO.callE (vs := [.pointer (some ⟨b, 0, none⟩), .int .i64 a, .int .i64 c]) Try.func29 rfl rfl rfl rfl (rg_far _ a c ok g) ?_
  rintro v L ⟨rfl, rfl, _, _⟩
  rw [far_in m h h2]
  refine go ?_
  exact ⟨c + 1, ⟨rfl, rfl, trivial⟩, rfl, by omega, by omega, Ent.app ent⟩
end Go.SL

/- Layer 34: parts, and whether it is whole, walked. -/
namespace Go.SL
open Go.Proofs
set_option linter.unusedVariables false
set_option linter.unusedSimpArgs false
set_option linter.unusedSectionVars false
set_option maxRecDepth 10000
set_option maxHeartbeats 4000000
attribute [local irreducible] W WO SV OW SW Tri Ent Tk Has Src SrcK DA DB DP RdS Own RowsH Gr OwnT MapH

/-- The least one that one can be reached from. -/
def PartP (m : Nat → Nat → Bool) (b a : Nat) : Prop := 0 ≤ dst m a b ∧ ∀ a', a' < a → dst m a' b < 0
theorem PartP.same {m : Nat → Nat → Bool} {b a c : Nat} (x : PartP m b a) (y : PartP m b c) : a = c := by
  have h1 : ¬ a < c := fun z => by have := y.2 a z; have := x.1; omega
  have h2 : ¬ c < a := fun z => by have := x.2 c z; have := y.1; omega
  omega
theorem dst_self (m : Nat → Nat → Bool) (a : Nat) : dst m a a = 0 := ((dst_is m a a).same (.self m a))
theorem rg_Parts {b mb : Nat} {rs : List Nat} {n : Nat} {m : Nat → Nat → Bool} (L : List HP) (ok : MtOk m n) (g : GrR b mb rs n m L) :
    TriE Try.prog 27 #[.pointer (some ⟨b, 0, none⟩)] (fun v M => ∃ xa c p, v = .slice xa p.length c ∧ SomeA xa p.length ∧ M = OIs xa c p :: L ∧ p.length = n ∧ ∀ k, k < n → PartP m k (p.getD k 0)) L := by
  have hn := ok.le
  refine Tri.of (N := 29) (args := [.pointer (some ⟨b, 0, none⟩)]) Try.func27 rfl rfl rfl ?_
  refine go ?_
  refine WO.callE (vs := [.pointer (some ⟨b, 0, none⟩)]) Try.func26 rfl rfl rfl rfl (rg_Len _ g) ?_
  rintro v L ⟨rfl, rfl⟩
  refine go ?_
  refine WO.sv rfl ?_
  refine SV.makeSlice rfl (m := n) rfl (by omega) (by omega) ?_
  intro pb
  refine go ?_
  refine W.ent (show Ent _ (Own 3 1 (.slice (some ⟨pb, 0, none⟩) n n) n (iv (List.replicate n 0)) :: L) from Own.ofPts (by simp [iv]) (by
    rw [show iv (List.replicate n 0) = List.replicate n (.int .i64 0) by simp [iv]]
    exact ent)) ?_
  have rdU : ∀ (u : List Nat), u.length = n → RdS 1 (some ⟨pb, 0, none⟩) n (iv u) (Own 3 1 (.slice (some ⟨pb, 0, none⟩) n n) n (iv u) :: L) := fun u h => RdS.ownS Tk.here (fun _ => ⟨pb, rfl⟩) (by simp [iv, h])
  refine W.loopS 268434448 rfl (fun s : Nat × List Nat => [(10, .int .i64 (s.1 : Int))]) (fun s => Own 3 1 (.slice (some ⟨pb, 0, none⟩) n n) n (iv s.2) :: L)
    (fun s => s.1 ≤ n ∧ s.2.length = n ∧ (∀ k, k < s.1 → PartP m k (s.2.getD k 0)) ∧ ∀ k, s.1 ≤ k → k < n → s.2.getD k 0 = 0) (fun s => n - s.1) (0, List.replicate n 0) ⟨rfl, trivial⟩
    ⟨Nat.zero_le _, by simp, fun k hk => by omega, fun k _ hk => by simp [List.getD_eq_getElem?_getD, hk]⟩ (Ent.app ent) ?_
  rintro ⟨i, u⟩ bg ⟨hi, hu, hp, hz⟩
  dsimp only at hi hu hp hz ⊢
  by_cases h : i < n
  rotate_left
  · obtain rfl : i = n := by omega
    refine go ?_
    exact ⟨rfl, [_], ⟨Res.tmp rfl, trivial⟩, OIs (some ⟨pb, 0, none⟩) i u :: L, by unfold OIs; rw [hu]; exact ent, some ⟨pb, 0, none⟩, i, u, by rw [hu]; rfl, fun _ => ⟨pb, rfl⟩, rfl, hu, hp⟩
  refine go ?_
  refine W.loopS 134209536 rfl (fun s : List Nat => []) (fun s => Own 3 1 (.slice (some ⟨pb, 0, none⟩) n n) n (iv s) :: L)
    (fun s => s.length = n ∧ (∀ k, k < i → PartP m k (s.getD k 0)) ∧ (∀ k, i < k → k < n → s.getD k 0 = 0) ∧ s.getD i 0 ≤ i ∧ ∀ a', a' < s.getD i 0 → dst m a' i < 0) (fun s => n - s.getD i 0) u trivial
    ⟨hu, hp, fun k h1 h2 => hz k (by omega) h2, by rw [hz i (Nat.le_refl _) h]; omega, fun a' ha => by rw [hz i (Nat.le_refl _) h] at ha; omega⟩ (Ent.app ent) ?_
  clear hu hp hz
  rintro u bg2 ⟨hu, hp, hz, hui, hua⟩
  have hx := iv_get u i (by omega)
  have hrd := rdU u hu
  generalize hue : u.getD i 0 = x at *
  refine go ?_
  refine WO.sv rfl ?_
  refine SV.loadR (v := .int .i64 (x : Int)) i rfl hrd (by omega) hx ?_
  refine go ?_
  refine WO.callE (vs := [.pointer (some ⟨b, 0, none⟩), .int .i64 x, .int .i64 i]) Try.func29 rfl rfl rfl rfl (rg_far _ x i ok g.cons) ?_
  rintro v M ⟨rfl, rfl, q1, q2⟩
  rw [far_in m (by omega) h] at *
  by_cases hd : dst m x i < 0
  rotate_left
  · refine go ?_
    refine ⟨(i + 1, u), ⟨rfl, trivial⟩, rfl, ⟨by dsimp only; omega, hu, fun k hk => ?_, fun k h1 h2 => hz k (by dsimp only at h1; omega) h2⟩, by dsimp only; omega, Ent.app ent⟩
    dsimp only at hk ⊢
    by_cases e : k = i
    · subst e; rw [hue]; exact ⟨by omega, hua⟩
    · exact hp k (by omega)
  have hxi : x ≠ i := fun e => by subst e; rw [dst_self] at hd; omega
  refine go ?_
  refine WO.sv rfl ?_
  refine SV.loadR (v := .int .i64 (x : Int)) i rfl hrd (by omega) hx ?_
  refine go ?_
  refine WO.sv rfl ?_
  refine SV.storeO (v := .int .i64 ((x + 1 : Nat) : Int)) i rfl Tk.here (by omega) rfl rfl (by simp [iv]; omega) (iv_set _ _ _) ?_
  refine go ?_
  have hg : ∀ k, (u.set i (x + 1)).getD k 0 = if k = i then x + 1 else u.getD k 0 := fun k => getD_setN (by omega)
  refine ⟨u.set i (x + 1), trivial, rfl, ⟨by rw [List.length_set]; exact hu, fun k hk => ?_, fun k h1 h2 => ?_, ?_, fun a' ha => ?_⟩, ?_, Ent.app ent⟩
  · rw [hg, if_neg (by omega)]; exact hp k hk
  · rw [hg, if_neg (by omega)]; exact hz k h1 h2
  · rw [hg, if_pos rfl]; omega
  · rw [hg, if_pos rfl] at ha
    by_cases e : a' = x
    · subst e; exact hd
    · exact hua a' (by omega)
  · rw [hg, if_pos rfl]; omega
theorem rg_Whole1 (x : Int) (L : List HP) : TriE Try.prog 61 #[.int .i64 x] (fun v M => v = .bool (decide (0 < x)) ∧ M = L) L := by
  refine Tri.of (N := 5) (args := [.int .i64 x]) Try.func61 rfl rfl rfl ?_
  refine goD ?_
  exact ⟨rfl, [_], ⟨Res.tmp rfl, trivial⟩, L, ent, rfl, rfl⟩
/-- The first one above 0. -/
def firstP (p : List Nat) : Int → Prop := fun r => (r = -1 ∧ ∀ k, k < p.length → p.getD k 0 = 0) ∨ (0 ≤ r ∧ r < p.length ∧ 0 < p.getD r.toNat 0)
theorem f_IndexFunc (xa : Option Addr) (c : Nat) (p : List Nat) (L : List HP) (hp : p.length ≤ 1000000) (r : RdS 1 xa p.length (iv p) L) :
    TriE Try.prog 70 #[.slice xa p.length c, .func (.func 61) #[] #[]] (fun v M => ∃ z : Int, v = .int .i64 z ∧ firstP p z ∧ M = L) L := by
  refine Tri.of (N := 19) (args := [.slice xa p.length c, .func (.func 61) #[] #[]]) Try.func70 rfl rfl rfl ?_
  refine go ?_
  refine W.loopS 524080 rfl (fun i : Nat => [(8, .int .i64 (i : Int))]) (fun _ => L) (fun i => i ≤ p.length ∧ ∀ k, k < i → p.getD k 0 = 0) (fun i => p.length - i) 0 ⟨rfl, trivial⟩ ⟨Nat.zero_le _, fun k hk => by omega⟩ (Ent.app ent) ?_
  rintro i bg ⟨hi, hz⟩
  by_cases h : i < p.length
  rotate_left
  · obtain rfl : i = p.length := by omega
    refine go ?_
    exact ⟨rfl, [_], ⟨Res.tmp rfl, trivial⟩, L, ent, -1, rfl, .inl ⟨rfl, hz⟩, rfl⟩
  have hx := iv_get p i h
  obtain ⟨ab, ao, rfl⟩ := r.at (by omega)
  generalize hpe : p.getD i 0 = x at *
  refine go ?_
  refine WO.sv rfl ?_
  refine SV.loadR (v := .int .i64 (x : Int)) i rfl rds (by omega) hx ?_
  refine WO.callV (g := 61) (vs := [.int .i64 (x : Int)]) rfl Try.func61 rfl rfl rfl rfl (rg_Whole1 x _) ?_
  rintro v M ⟨rfl, rfl⟩
  by_cases hx0 : (0 : Int) < x
  · rw [decide_eq_true hx0]
    refine go ?_
    exact ⟨rfl, [_], ⟨Res.tmp rfl, trivial⟩, _, ent, i, rfl, .inr ⟨by omega, by omega, by rw [Int.toNat_natCast, hpe]; omega⟩, rfl⟩
  · rw [decide_eq_false hx0]
    refine go ?_
    exact ⟨i + 1, ⟨rfl, trivial⟩, rfl, ⟨by omega, fun k hk => by
      by_cases e : k = i
      · subst e; omega
      · exact hz k (by omega)⟩, by omega, Ent.app ent⟩
theorem f_ContainsFunc (xa : Option Addr) (c : Nat) (p : List Nat) (L : List HP) (hp : p.length ≤ 1000000) (r : RdS 1 xa p.length (iv p) L) :
    TriE Try.prog 60 #[.slice xa p.length c, .func (.func 61) #[] #[]] (fun v M => v = .bool (!decide (∀ k, k < p.length → p.getD k 0 = 0)) ∧ M = L) L := by
  refine Tri.of (N := 9) (args := [.slice xa p.length c, .func (.func 61) #[] #[]]) Try.func60 rfl rfl rfl ?_
  refine go ?_
  refine WO.callE (vs := [.slice xa p.length c, .func (.func 61) #[] #[]]) Try.func70 rfl rfl rfl rfl (f_IndexFunc xa c p _ hp r) ?_
  rintro v M ⟨z, rfl, hz, rfl⟩
  rcases hz with ⟨rfl, hz⟩ | ⟨h1, h2, h3⟩
  · rw [decide_eq_true hz]
    refine go ?_
    exact ⟨rfl, [_], ⟨Res.tmp rfl, trivial⟩, _, ent, rfl, rfl⟩
  · rw [decide_eq_false (fun q => by have := q z.toNat (by omega); omega)]
    refine go ?_
    exact ⟨rfl, [_], ⟨Res.tmp rfl, trivial⟩, _, ent, rfl, rfl⟩
/-- Whether each can be reached from the first one. -/
def WholeP (m : Nat → Nat → Bool) (n : Nat) : Prop := ∀ b, b < n → 0 ≤ dst m 0 b
theorem parts_whole {m : Nat → Nat → Bool} {n : Nat} {p : List Nat} (hl : p.length = n) (hp : ∀ k, k < n → PartP m k (p.getD k 0)) : (∀ k, k < p.length → p.getD k 0 = 0) ↔ WholeP m n := by
  constructor
  · intro h b hb
    have h1 := hp b hb
    rw [h b (by omega)] at h1
    exact h1.1
  · intro h k hk
    have h1 := hp k (by omega)
    have h2 := h k (by omega)
    rcases Nat.eq_zero_or_pos (p.getD k 0) with z | z
    · exact z
    · have := h1.2 0 z; omega
theorem rg_Whole {b mb : Nat} {rs : List Nat} {n : Nat} {m : Nat → Nat → Bool} (L : List HP) (ok : MtOk m n) (g : GrR b mb rs n m L) :
    TriE Try.prog 34 #[.pointer (some ⟨b, 0, none⟩)] (fun v M => (∃ t : Bool, v = .bool t ∧ (t = true ↔ WholeP m n)) ∧ M = L) L := by
  have hn := ok.le
  refine Tri.of (N := 7) (args := [.pointer (some ⟨b, 0, none⟩)]) Try.func34 rfl rfl rfl ?_
  refine go ?_
  refine WO.callE (vs := [.pointer (some ⟨b, 0, none⟩)]) Try.func27 rfl rfl rfl rfl (rg_Parts _ ok g) ?_
  rintro v M ⟨xa, c, p, rfl, sa, rfl, hl, hp⟩
  refine go ?_
  refine WO.callE (vs := [.slice xa p.length c, .func (.func 61) #[] #[]]) Try.func60 rfl rfl rfl rfl (f_ContainsFunc xa c p _ (by omega) (by unfold OIs; exact RdS.ownS Tk.here sa (by simp [iv]))) ?_
  rintro v M ⟨rfl, rfl⟩
  refine go ?_
  refine ⟨rfl, [_], ⟨Res.tmp rfl, trivial⟩, L, ent, ⟨decide (∀ k, k < p.length → p.getD k 0 = 0), ?_, ?_⟩, rfl⟩
  · show Value.bool (!!decide _) = _
    rw [Bool.not_not]
  · rw [decide_eq_true_iff]; exact parts_whole hl hp
end Go.SL

/- Layer 34: all who meet, walked. -/
namespace Go.SL
open Go.Proofs
set_option linter.unusedVariables false
set_option linter.unusedSimpArgs false
set_option linter.unusedSectionVars false
set_option maxRecDepth 10000
set_option maxHeartbeats 4000000
attribute [local irreducible] W WO SV OW SW Tri Ent Tk Has Src SrcK DA DB DP RdS Own RowsH Gr OwnT MapH

def pV (x : Nat × Nat) : List Value := [.int .i64 (x.1 : Int), .int .i64 (x.2 : Int)]
def lkI (m : Nat → Nat → Bool) (a : Nat) (l : List (Nat × Nat)) : Nat → List (Nat × Nat)
  | 0 => l
  | b + 1 => if a < b ∧ m a b = true then lkI m a l b ++ [(a, b)] else lkI m a l b
def lkO (m : Nat → Nat → Bool) (n : Nat) : Nat → List (Nat × Nat)
  | 0 => []
  | a + 1 => lkI m a (lkO m n a) n
theorem lkI_low (m : Nat → Nat → Bool) (a : Nat) (l : List (Nat × Nat)) : ∀ b, b ≤ a + 1 → lkI m a l b = l
  | 0, _ => rfl
  | b + 1, h => by
    unfold lkI
    rw [if_neg (by omega), lkI_low m a l b (by omega)]
theorem lkI_len (m : Nat → Nat → Bool) (a : Nat) (l : List (Nat × Nat)) : ∀ b, (lkI m a l b).length ≤ l.length + b
  | 0 => Nat.le_refl _
  | b + 1 => by
    have := lkI_len m a l b
    unfold lkI
    split
    · rw [List.length_append, List.length_singleton]; omega
    · omega
theorem lkO_len (m : Nat → Nat → Bool) (n : Nat) : ∀ a, (lkO m n a).length ≤ a * n
  | 0 => by simp [lkO]
  | a + 1 => by
    have h1 := lkO_len m n a
    have h2 := lkI_len m a (lkO m n a) n
    show (lkI m a (lkO m n a) n).length ≤ _
    rw [Nat.add_mul]; omega
theorem rg_Links {b mb : Nat} {rs : List Nat} {n : Nat} {m : Nat → Nat → Bool} (L : List HP) (ok : MtOk m n) (g : GrR b mb rs n m L) :
    TriE Try.prog 28 #[.pointer (some ⟨b, 0, none⟩)] (fun v M => ∃ xa c, v = .slice xa (lkO m n n).length c ∧ SomeA xa (lkO m n n).length ∧ M = Own 57 2 (.slice xa (lkO m n n).length c) (lkO m n n).length ((lkO m n n).flatMap pV) :: L) L := by
  have hn := ok.le
  have hlen := g.len
  have bnd : ∀ a c, a < n → c ≤ n → (lkI m a (lkO m n a) c).length ≤ 400 := by
    intro a c ha hc
    have h1 := lkO_len m n a
    have h2 := lkI_len m a (lkO m n a) c
    have h3 : a * n ≤ 16 * 16 := Nat.mul_le_mul (by omega) (by omega)
    omega
  refine Tri.of (N := 37) (args := [.pointer (some ⟨b, 0, none⟩)]) Try.func28 rfl rfl rfl ?_
  refine go ?_
  refine WO.callE (vs := [.pointer (some ⟨b, 0, none⟩)]) Try.func26 rfl rfl rfl rfl (rg_Len _ g) ?_
  rintro v L ⟨rfl, rfl⟩
  refine go ?_
  refine W.ent (show Ent L (Own 57 2 (.slice none 0 0) 0 [] :: L) from Ent.ownNil ent) ?_
  refine W.loopS 68719476536 rfl (fun s : Nat × Option Addr × Nat => [(8, .int .i64 (s.1 : Int)), (3, .slice s.2.1 (lkO m n s.1).length s.2.2)]) (fun s => Own 57 2 (.slice s.2.1 (lkO m n s.1).length s.2.2) (lkO m n s.1).length ((lkO m n s.1).flatMap pV) :: L)
    (fun s => s.1 ≤ n ∧ SomeA s.2.1 (lkO m n s.1).length) (fun s => n - s.1) (0, none, 0) ⟨rfl, rfl, trivial⟩ ⟨Nat.zero_le _, fun z => absurd rfl z⟩ (Ent.app ent) ?_
  rintro ⟨a, xa, c⟩ bg ⟨ha, sa⟩
  dsimp only at ha sa ⊢
  by_cases h : a < n
  rotate_left
  · obtain rfl : a = n := by omega
    refine go ?_
    exact ⟨rfl, [_], ⟨Res.tmp rfl, trivial⟩, _, ent, xa, c, rfl, sa, rfl⟩
  have hstep : lkO m n (a + 1) = lkI m a (lkO m n a) n := rfl
  have hbn := bnd a
  generalize lkO m n a = l0 at *
  have hlow := lkI_low m a l0 (a + 1) (Nat.le_refl _)
  refine go ?_
  refine W.loopS 34359730216 rfl (fun s : Nat × Option Addr × Nat => [(5, .int .i64 (s.1 : Int)), (3, .slice s.2.1 (lkI m a l0 s.1).length s.2.2)]) (fun s => Own 57 2 (.slice s.2.1 (lkI m a l0 s.1).length s.2.2) (lkI m a l0 s.1).length ((lkI m a l0 s.1).flatMap pV) :: L)
    (fun s => a + 1 ≤ s.1 ∧ s.1 ≤ n ∧ SomeA s.2.1 (lkI m a l0 s.1).length) (fun s => n - s.1) (a + 1, xa, c) ⟨rfl, by dsimp only; rw [hlow]; rfl, trivial⟩ ⟨Nat.le_refl _, h, by dsimp only; rw [hlow]; exact sa⟩ (by dsimp only; rw [hlow]; exact Ent.app ent) ?_
  clear hlow sa
  rintro ⟨e, xa, c⟩ bg2 ⟨hae, hen, sa⟩
  dsimp only at hae hen sa ⊢
  refine go ?_
  refine WO.callE (vs := [.pointer (some ⟨b, 0, none⟩)]) Try.func26 rfl rfl rfl rfl (rg_Len _ g.cons) ?_
  rintro v M ⟨rfl, rfl⟩
  by_cases h2 : e < n
  rotate_left
  · obtain rfl : e = n := by omega
    rw [← hstep] at sa ⊢
    refine go ?_
    exact ⟨(a + 1, xa, c), ⟨rfl, rfl, trivial⟩, rfl, ⟨h, sa⟩, by dsimp only; omega, Ent.app ent⟩
  have hst2 : lkI m a l0 (e + 1) = if a < e ∧ m a e = true then lkI m a l0 e ++ [(a, e)] else lkI m a l0 e := rfl
  have hb2 := hbn e h (by omega)
  generalize lkI m a l0 e = l1 at *
  haveI := g.rb
  have rm := g.rm
  have rr := g.rr a h
  have g1 : (rs.map (rowS n))[a]? = some (rowS n (rs.getD a 0)) := by
    simp [List.getD_eq_getElem?_getD, show a < rs.length by omega]
  have g2 := rowV_get m n a e h2
  refine go ?_
  refine WO.sv rfl ?_
  refine SV.loadR (v := rowS n (rs.getD a 0)) a rfl rds (by omega) g1 ?_
  refine go ?_
  refine WO.sv rfl ?_
  refine SV.loadR (v := .bool (m a e)) e rfl rds (by omega) g2 ?_
  cases hm : m a e with
  | false =>
    rw [if_neg (fun z => by rw [hm] at z; cases z.2)] at hst2
    refine go ?_
    exact ⟨(e + 1, xa, c), ⟨rfl, by dsimp only; rw [hst2]; rfl, trivial⟩, rfl, ⟨by dsimp only; omega, by dsimp only; omega, by dsimp only; rw [hst2]; exact sa⟩, by dsimp only; omega, by dsimp only; rw [hst2]; exact Ent.app ent⟩
  | true =>
    rw [if_pos ⟨by omega, hm⟩] at hst2
    refine go ?_
    refine WO.sv rfl ?_
    refine SV.buildArr parts rfl nl ?_
    refine go ?_
    refine WO.sv rfl ?_
    refine SV.lit rfl rfl rfl parts rfl nl ?_
    intro nb
    refine go ?_
    refine WO.sv rfl ?_
    refine SV.append (m := 1) (ys := pV (a, e)) rfl rfl rfl (Tk.there Tk.here) (RdS.src (RdS.all (sz := 2) (n := 1) rfl)) rfl rfl (by omega) rfl ?_
    intro a' c' ha'
    have e1 : (l1 ++ [(a, e)]).length = l1.length + 1 := by simp
    have e2 : (l1 ++ [(a, e)]).flatMap pV = l1.flatMap pV ++ pV (a, e) := by simp
    refine go ?_
    exact ⟨(e + 1, a', c'), ⟨rfl, by dsimp only; rw [hst2, e1]; rfl, trivial⟩, rfl, ⟨by dsimp only; omega, by dsimp only; omega, by dsimp only; rw [hst2, e1]; exact ha'⟩, by dsimp only; omega, by dsimp only; rw [hst2, e1, e2]; exact Ent.app ent⟩
end Go.SL

/- Layer 34: what is known of a way's places; the law's own known graph. -/
namespace Go.SL
open Go.Proofs
set_option linter.unusedVariables false
set_option linter.unusedSimpArgs false
set_option linter.unusedSectionVars false
set_option maxRecDepth 10000
set_option maxHeartbeats 4000000
attribute [local irreducible] W WO SV OW SW Tri Ent Tk Has Src SrcK DA DB DP RdS Own RowsH Gr OwnT MapH

section
variable {m : Nat → Nat → Bool} {n a : Nat} {l : List Bt} (bf : Bf m n a l l.length 0) {i : Nat} (hi : i < l.length)
include bf hi
theorem chv_len : (chv l i).length = (ich l i).length := by simp [chv]
theorem chv_at (j : Nat) (hj : j < (chv l i).length) : (chv l i).getD j 0 = vx l ((ich l i).getD j 0) ∧ (ich l i).getD j 0 < l.length := by
  rw [chv_len bf hi] at hj
  have := (bf.ich_at i hi j hj).1
  refine ⟨?_, by omega⟩
  simp [chv, List.getD_eq_getElem?_getD, hj]
theorem chv_lt (j : Nat) (hj : j < (chv l i).length) : (chv l i).getD j 0 < n := by
  obtain ⟨h1, h2⟩ := chv_at bf hi j hj
  obtain ⟨x, x1, x2, _⟩ := get_of h2
  rw [h1, x2]; exact bf.lt _ x x1
theorem chv_edge (j : Nat) (h0 : 0 < j) (hj : j < (chv l i).length) : m ((chv l i).getD (j - 1) 0) ((chv l i).getD j 0) = true := by
  obtain ⟨h1, h2⟩ := chv_at bf hi j hj
  obtain ⟨h3, h4⟩ := chv_at bf hi (j - 1) (by omega)
  obtain ⟨q1, q2⟩ := (bf.ich_at i hi j (by rw [← chv_len bf hi]; exact hj)).2.2 h0
  rw [h1, h3, ← q1]
  exact bf.edge q2 h2
theorem chv_zero : (chv l i).getD 0 0 = a := by
  have hl := ich_len l i
  obtain ⟨h1, h2⟩ := chv_at bf hi 0 (by rw [chv_len bf hi]; omega)
  obtain ⟨_, q, _⟩ := bf.ich_at i hi 0 (by omega)
  have : (ich l i).getD 0 0 = 0 := by
    generalize (ich l i).getD 0 0 = z at *
    rcases Nat.eq_zero_or_pos z with e | e
    · exact e
    · rw [ich_pos (bf.pix_lt e h2), List.length_append] at q
      have := ich_len l (pix l z)
      simp only [List.length_singleton] at q; omega
  rw [h1, this, bf.vx0]
theorem chv_last : (chv l i).getD ((chv l i).length - 1) 0 = vx l i := by
  have hl := ich_len l i
  have hc := chv_len bf hi
  obtain ⟨h1, _⟩ := chv_at bf hi ((chv l i).length - 1) (by omega)
  rw [h1, hc, bf.ich_last i hi]
theorem chv_inj (j k : Nat) (hj : j < (chv l i).length) (hk : k < (chv l i).length) (e : (chv l i).getD j 0 = (chv l i).getD k 0) : j = k := by
  obtain ⟨h1, h2⟩ := chv_at bf hi j hj
  obtain ⟨h3, h4⟩ := chv_at bf hi k hk
  rw [h1, h3] at e
  have := bf.inj h2 h4 e
  rw [chv_len bf hi] at hj hk
  have q1 := (bf.ich_at i hi j hj).2.1
  have q2 := (bf.ich_at i hi k hk).2.1
  rw [this] at q1
  omega
end
theorem dst_le {m : Nat → Nat → Bool} {a b k : Nat} (w : Wk m a b k) : 0 ≤ dst m a b ∧ dst m a b ≤ k := by
  rcases dst_is m a b with ⟨h1, h2⟩ | ⟨h1, h2, h3⟩
  · exact absurd w (h2 k)
  · exact ⟨h1, h3 k w⟩
def m3 : Nat → Nat → Bool := setM (setM (fun _ _ => false) 0 1) 2 1
theorem m3_ok : MtOk m3 3 := ((MtOk.none (by decide)).set (by decide) (by decide) (by decide)).set (by decide) (by decide) (by decide)
theorem m3_one {a b : Nat} (h : m3 a b = true) : dst m3 a b = 1 := ((dst_is m3 a b).one m3_ok.irr).2 h
theorem m3_two {a b c : Nat} (h : m3 a b = true) (h' : m3 b c = true) (hac : a ≠ c) (hn : m3 a c = false) : dst m3 a c = 2 := by
  have h1 := dst_le ((Wk.one h).step h')
  have h2 : dst m3 a c ≠ 0 := fun e => hac ((dst_is m3 a c).zero.1 e)
  have h3 : dst m3 a c ≠ 1 := fun e => by
    have := ((dst_is m3 a c).one m3_ok.irr).1 e
    rw [hn] at this; cases this
  omega
theorem m3_wide : wdO m3 3 3 = 2 := by
  have e01 := m3_one (a := 0) (b := 1) rfl
  have e10 := m3_one (a := 1) (b := 0) rfl
  have e12 := m3_one (a := 1) (b := 2) rfl
  have e21 := m3_one (a := 2) (b := 1) rfl
  have e02 := m3_two (a := 0) (b := 1) (c := 2) rfl rfl (by decide) rfl
  have e20 := m3_two (a := 2) (b := 1) (c := 0) rfl rfl (by decide) rfl
  have s := dst_self m3
  simp only [wdO, wdI, e01, e10, e12, e21, e02, e20, s]
  decide
theorem m3_whole : WholeP m3 3 := by
  intro b hb
  have : b = 0 ∨ b = 1 ∨ b = 2 := by omega
  rcases this with rfl | rfl | rfl
  · rw [dst_self]; decide
  · rw [m3_one rfl]; decide
  · rw [m3_two (b := 1) rfl rfl (by decide) rfl]; decide
theorem m3_way {w : List Nat} (h : WayP m3 3 0 2 w) : w.length = 3 ∧ w.getD 1 0 = 1 := by
  have e02 := m3_two (a := 0) (b := 1) (c := 2) rfl rfl (by decide) rfl
  have hf := (h.far (by decide)).eq.1
  have e3 : far m3 3 0 2 = dst m3 0 2 := far_in m3 (a := 0) (b := 2) (by decide) (by decide)
  rw [e3, e02] at hf
  have hl : w.length = 3 := by omega
  refine ⟨hl, ?_⟩
  rcases h with ⟨rfl, _⟩ | ⟨_, _, l, i, bf, hi, hv, rfl⟩
  · simp at hl
  · have h1 := chv_edge bf hi 1 (by decide) (by omega)
    rw [show 1 - 1 = 0 from rfl, chv_zero bf hi] at h1
    have h2 := chv_lt bf hi 1 (by omega)
    generalize (chv l i).getD 1 0 = z at *
    have : z = 0 ∨ z = 1 ∨ z = 2 := by omega
    rcases this with rfl | rfl | rfl
    · cases h1
    · rfl
    · cases h1
theorem l34_one (L : List HP) : TriE Try.prog 23 #[] (fun v M => v = .bool true ∧ M = L) L := by
  refine Tri.of (N := 51) (args := []) Try.func23 rfl rfl rfl ?_
  refine go ?_
  refine WO.callE (vs := [.int .i64 ((3 : Nat) : Int)]) Try.func22 rfl rfl rfl rfl (rg_New 3 (by decide) L) ?_
  rintro v M ⟨b, mb, rs, rfl, hl, rfl⟩
  refine go ?_
  refine WO.callE (vs := [.pointer (some ⟨b, 0, none⟩), .int .i64 0, .int .i64 1]) Try.func32 rfl rfl rfl rfl (rg_Link _ 0 1 hl) ?_
  rintro v M ⟨rfl, rfl⟩
  rw [if_pos (by decide), if_pos (by decide)]
  refine go ?_
  refine WO.callE (vs := [.pointer (some ⟨b, 0, none⟩), .int .i64 2, .int .i64 1]) Try.func32 rfl rfl rfl rfl (rg_Link _ 2 1 hl) ?_
  rintro v M ⟨rfl, rfl⟩
  rw [if_pos (by decide), if_pos (by decide)]
  have g : GrR b mb rs 3 m3 (Gr b mb rs 3 m3 :: L) := Gr.rd hl
  refine WO.ent (show Ent (Gr b mb rs 3 (setM (setM (fun _ _ => false) (0 : Int).toNat (1 : Int).toNat) (2 : Int).toNat (1 : Int).toNat) :: L) (Gr b mb rs 3 m3 :: L) from Ent.refl _) ?_
  refine go ?_
  refine WO.callE (vs := [.pointer (some ⟨b, 0, none⟩), .int .i64 0, .int .i64 2]) Try.func31 rfl rfl rfl rfl (rg_Way _ 0 2 m3_ok g) ?_
  rintro v M ⟨xa, c, w, rfl, sa, rfl, hw⟩
  obtain ⟨w1, w2⟩ := m3_way hw
  have hx := iv_get w 1 (by omega)
  rw [w2] at hx
  have rdw : RdS 1 xa w.length (iv w) (OIs xa c w :: Gr b mb rs 3 m3 :: L) := by unfold OIs; exact RdS.ownS Tk.here sa (by simp [iv])
  obtain ⟨ab, rfl⟩ := sa (by omega)
  have e3 : far m3 3 0 2 = 2 := by rw [show far m3 3 0 2 = dst m3 0 2 from far_in m3 (a := 0) (b := 2) (by decide) (by decide)]; exact m3_two (b := 1) rfl rfl (by decide) rfl
  have hlk : lkO m3 3 3 = [(0, 1), (1, 2)] := by decide
  refine go ?_
  refine WO.callE (vs := [.pointer (some ⟨b, 0, none⟩), .int .i64 0, .int .i64 2]) Try.func29 rfl rfl rfl rfl (rg_far _ 0 2 m3_ok g.cons) ?_
  rintro v M ⟨rfl, rfl, _, _⟩
  rw [e3]
  refine go ?_
  refine WO.callE (vs := [.pointer (some ⟨b, 0, none⟩)]) Try.func33 rfl rfl rfl rfl (rg_Wide _ m3_ok g.cons) ?_
  rintro v M ⟨rfl, rfl⟩
  rw [m3_wide, w1]
  refine go ?_
  refine WO.sv rfl ?_
  refine SV.loadR (v := .int .i64 1) 1 rfl rdw (by omega) hx ?_
  refine go ?_
  refine WO.callE (vs := [.pointer (some ⟨b, 0, none⟩)]) Try.func34 rfl rfl rfl rfl (rg_Whole _ m3_ok g.cons) ?_
  rintro v M ⟨⟨t, rfl, ht⟩, rfl⟩
  rw [ht.2 m3_whole]
  refine go ?_
  refine WO.callE (vs := [.pointer (some ⟨b, 0, none⟩)]) Try.func28 rfl rfl rfl rfl (rg_Links _ m3_ok g.cons) ?_
  rintro v M ⟨ya, yc, rfl, _, rfl⟩
  rw [hlk]
  refine go ?_
  exact ⟨rfl, [_], ⟨Res.tmp rfl, trivial⟩, L, ent, rfl, rfl⟩
end Go.SL

/- Layer 34: who meets whom, of pairs, walked. -/
namespace Go.SL
open Go.Proofs
set_option linter.unusedVariables false
set_option linter.unusedSimpArgs false
set_option linter.unusedSectionVars false
set_option maxRecDepth 10000
set_option maxHeartbeats 4000000
attribute [local irreducible] W WO SV OW SW Tri Ent Tk Has Src SrcK DA DB DP RdS Own RowsH Gr OwnT MapH

def tabV (m : Nat → Nat → Bool) : List Value := (List.range 256).map fun j => Value.bool (m (j / 16) (j % 16))
theorem tabV_len (m : Nat → Nat → Bool) : (tabV m).length = 256 := by simp [tabV]
theorem tabV_get (m : Nat → Nat → Bool) {i k : Nat} (hi : i < 16) (hk : k < 16) : (tabV m)[i * 16 + k]? = some (.bool (m i k)) := by
  simp only [tabV, List.getElem?_map]
  rw [List.getElem?_range (by omega)]
  simp only [Option.map_some]
  rw [show (i * 16 + k) / 16 = i by omega, show (i * 16 + k) % 16 = k by omega]
theorem tabV_set (m : Nat → Nat → Bool) {i k : Nat} (hi : i < 16) (hk : k < 16) : (tabV m).set (i * 16 + k) (.bool true) = tabV (set1 m i k) := by
  apply List.ext_getElem
  · simp [tabV]
  · intro j h1 h2
    simp only [tabV, List.length_set, List.length_map, List.length_range] at h1
    simp only [tabV, set1, List.getElem_set, List.getElem_map, List.getElem_range]
    by_cases e : i * 16 + k = j
    · rw [if_pos e, if_pos (by omega)]
    · rw [if_neg e, if_neg (by omega)]
theorem tabV_zero : tabV (fun _ _ => false) = List.replicate 256 (.bool false) := by
  simp [tabV, List.map_const']
theorem sub_full {l : List Value} {n : Nat} (h : l.length = n) : NL (lsub l 0 n) l := by
  rw [lsub_eq, List.drop_zero, List.take_of_length_le (by omega)]; rfl
theorem lput_full : ∀ {l vs : List Value}, l.length = vs.length → NL (lput l 0 vs) vs
  | [], [], _ => rfl
  | [], _ :: _, h => by simp at h
  | a :: l, [], h => by simp at h
  | a :: l, v :: vs, h => by
    have ih := lput_full (l := l) (vs := vs) (by simpa using h)
    unfold NL at *
    show v :: lput l 0 vs = v :: vs
    rw [ih]
theorem tabV_cells (m : Nat → Nat → Bool) : Nat.beq (tabV m).length 256 = true ∧ (tabV m).isEmpty = false ∧ (tabV m).all isCell = true := by
  refine ⟨by rw [tabV_len]; rfl, ?_, ?_⟩
  · cases h : tabV m with
    | nil => have := tabV_len m; rw [h] at this; cases this
    | cons _ _ => rfl
  · rw [List.all_eq_true]
    intro x hx
    obtain ⟨j, _, rfl⟩ := List.mem_map.1 hx
    rfl
abbrev ZZ := Int × Int
def zzD (x : ZZ) : List Value := [.int .i64 x.1, .int .i64 x.2]
theorem l34_Made (n : Nat) (hn : n ≤ 16) (a : Option Addr) (c : Nat) (l : List ZZ) (L : List HP) (hl : l.length ≤ 9223372036854775807) (r : RdS 2 a l.length (l.flatMap zzD) L) :
    TriE Try.prog 24 #[.int .i64 n, .slice a l.length c] (fun v M => ∃ b mb rs m, v = .tuple #[.pointer (some ⟨b, 0, none⟩), .agg (tabV m).toArray] ∧ rs.length = n ∧ MtOk m n ∧ M = Gr b mb rs n m :: L) L := by
  refine Tri.of (N := 68) (args := [.int .i64 n, .slice a l.length c]) Try.func24 rfl rfl rfl ?_
  refine go ?_
  intro b5
  refine go ?_
  refine WO.callE (vs := [.int .i64 (n : Int)]) Try.func22 rfl rfl rfl rfl (rg_New n hn _) ?_
  rintro v M ⟨b, mb, rs, rfl, hlen, rfl⟩
  refine go ?_
  intro b8
  refine go ?_
  rw [← tabV_zero]
  refine W.loopS 73786976294838078976 rfl (fun s : Nat × (Nat → Nat → Bool) => [(9, .int .i64 (s.1 : Int))]) (fun s => Gr b mb rs n s.2 :: pts b8 (.cells (tabV s.2).toArray 46) :: pts b5 (.cells (tabV (fun _ _ => false)).toArray 46) :: L) (fun s => s.1 ≤ l.length ∧ MtOk s.2 n) (fun s => l.length - s.1) (0, fun _ _ => false) ⟨rfl, trivial⟩ ⟨Nat.zero_le _, MtOk.none hn⟩ (Ent.app ent) ?_
  rintro ⟨i, m⟩ bg ⟨hi, ok⟩
  dsimp only at hi ok ⊢
  by_cases h1 : i < l.length
  rotate_left
  · refine go ?_
    refine W.drawA rfl (by kernel_rfl) (by kernel_rfl) ?_
    refine go ?_
    refine DA.v rfl rfl rfl ?_
    refine SV.store (vs := tabV m) (l' := tabV m) rfl rfl Cel.agg (tabV_cells m).1 (tabV_cells m).2.1 (tabV_cells m).2.2 (.inl (Nat.le_refl _)) (by rw [tabV_len]; decide) (lput_full (by rw [tabV_len, tabV_len])) ?_
    refine go ?_
    exact ⟨rfl, [_, _], ⟨Res.tmp rfl, Res.cell rfl (by rw [tabV_len]; decide) (sub_full (tabV_len m)), trivial⟩, Gr b mb rs n m :: L, ent, b, mb, rs, m, rfl, hlen, ok, rfl⟩
  by_cases h2 : i < 60
  rotate_left
  · refine go ?_
    refine W.drawA rfl (by kernel_rfl) (by kernel_rfl) ?_
    refine go ?_
    refine DA.v rfl rfl rfl ?_
    refine SV.store (vs := tabV m) (l' := tabV m) rfl rfl Cel.agg (tabV_cells m).1 (tabV_cells m).2.1 (tabV_cells m).2.2 (.inl (Nat.le_refl _)) (by rw [tabV_len]; decide) (lput_full (by rw [tabV_len, tabV_len])) ?_
    refine go ?_
    exact ⟨rfl, [_, _], ⟨Res.tmp rfl, Res.cell rfl (by rw [tabV_len]; decide) (sub_full (tabV_len m)), trivial⟩, Gr b mb rs n m :: L, ent, b, mb, rs, m, rfl, hlen, ok, rfl⟩
  obtain ⟨ab, ao, rfl⟩ := r.at (by omega)
  have g0 := flat_get (g := zzD) (n := 2) (fun _ => rfl) l i 0 h1 (by decide)
  have g1 := flat_get (g := zzD) (n := 2) (fun _ => rfl) l i 1 h1 (by decide)
  generalize l[i] = x at g0 g1
  obtain ⟨x, y⟩ := x
  refine go ?_
  refine W.drawA rfl (by kernel_rfl) (by kernel_rfl) ?_
  refine go ?_
  refine DA.q (v := .int .i64 x) rfl rfl (SV.loadR (i * 2 + 0) rfl rds (by omega) g0 eqq) ?_
  refine go ?_
  refine DA.q (v := .int .i64 y) rfl rfl (SV.loadR (i * 2 + 1) rfl rds (by omega) g1 eqq) ?_
  refine go ?_
  refine WO.callE (vs := [.pointer (some ⟨b, 0, none⟩), .int .i64 x, .int .i64 y]) Try.func32 rfl rfl rfl rfl (rg_Link _ x y hlen) ?_
  rintro v M ⟨rfl, rfl⟩
  by_cases hk : lkOk n x y
  rotate_left
  · rw [if_neg hk, if_neg hk]
    refine go ?_
    exact ⟨(i + 1, m), ⟨rfl, trivial⟩, rfl, ⟨by dsimp only; omega, ok⟩, by dsimp only; omega, Ent.app ent⟩
  rw [if_pos hk, if_pos hk]
  obtain ⟨hx, hy, hxy⟩ := hk
  obtain ⟨i1, rfl⟩ : ∃ i : Nat, x = i := ⟨x.toNat, by omega⟩
  obtain ⟨k1, rfl⟩ : ∃ k : Nat, y = k := ⟨y.toNat, by omega⟩
  rw [Int.toNat_natCast, Int.toNat_natCast]
  refine go ?_
  refine WO.sv rfl ?_
  refine SV.storeS (v := .bool true) rfl rfl rfl (.inl (Nat.le_refl _)) (by rw [tabV_len]; omega) ?_
  rw [show 0 + (i1 : Int).toNat * 16 + (k1 : Int).toNat * 1 = i1 * 16 + k1 by omega, tabV_set m (by omega) (by omega)]
  refine go ?_
  refine WO.sv rfl ?_
  refine SV.storeS (v := .bool true) rfl rfl rfl (.inl (Nat.le_refl _)) (by rw [tabV_len]; omega) ?_
  rw [show 0 + (k1 : Int).toNat * 16 + (i1 : Int).toNat * 1 = k1 * 16 + i1 by omega, tabV_set _ (by omega) (by omega)]
  refine go ?_
  exact ⟨(i + 1, setM m i1 k1), ⟨rfl, trivial⟩, rfl, ⟨by dsimp only; omega, ok.set (by omega) (by omega) (by omega)⟩, by dsimp only; omega, Ent.app ent⟩
end Go.SL

/- Layer 34: the document's table, walked. -/
namespace Go.SL
open Go.Proofs
set_option linter.unusedVariables false
set_option linter.unusedSimpArgs false
set_option linter.unusedSectionVars false
set_option maxRecDepth 10000
set_option maxHeartbeats 4000000
attribute [local irreducible] W WO SV OW SW Tri Ent Tk Has Src SrcK DA DB DP RdS Own RowsH Gr OwnT MapH

def dV (l : List Int) : List Value := l.map (Value.int .i64)
theorem dV_len (l : List Int) : (dV l).length = l.length := by simp [dV]
theorem dV_set (l : List Int) (j : Nat) (x : Int) : (dV l).set j (.int .i64 x) = dV (l.set j x) := by simp [dV, List.map_set]
theorem dV_get (l : List Int) {i k : Nat} (hl : l.length = 256) (hi : i < 16) (hk : k < 16) : (dV l)[16 * i + k]? = some (.int .i64 (gd l i k)) := by
  simp [dV, gd, List.getD_eq_getElem?_getD, show 16 * i + k < l.length by omega]
theorem dV_zero : List.replicate 256 (Value.int .i64 0) = dV (List.replicate 256 0) := by simp [dV]
theorem dV_cells (l : List Int) (hl : l.length = 256) : Nat.beq (dV l).length 256 = true ∧ (dV l).isEmpty = false ∧ (dV l).all isCell = true := by
  refine ⟨by rw [dV_len, hl]; rfl, ?_, ?_⟩
  · cases h : dV l with
    | nil => have := dV_len l; rw [h, hl] at this; cases this
    | cons _ _ => rfl
  · rw [List.all_eq_true]
    intro x hx
    obtain ⟨j, _, rfl⟩ := List.mem_map.1 hx
    rfl
theorem r34_Far (m : Nat → Nat → Bool) (n : Nat) (ok : MtOk m n) (L : List HP) :
    TriE Try.prog 25 #[.agg (tabV m).toArray, .int .i64 n] (fun v M => ∃ l : List Int, v = .agg (dV l).toArray ∧ Tab m n l ∧ M = L) L := by
  have hn := ok.le
  refine Tri.of (N := 108) (args := [.agg (tabV m).toArray, .int .i64 n]) Try.func25 rfl rfl rfl ?_
  refine go ?_
  intro b2
  refine go ?_
  intro b4
  refine go ?_
  intro b5
  refine go ?_
  rw [dV_zero]
  have rm : ∀ l : List Int, RdS 1 (some ⟨b2, 0, none⟩) 256 (tabV m) (pts b5 (.cells (dV l).toArray 50) :: pts b4 (.cells (dV (List.replicate 256 0)).toArray 50) :: pts b2 (.cells (tabV m).toArray 46) :: L) := fun l => (RdS.all (by rw [tabV_len])).cons.cons
  refine W.loopS 8796093014208 rfl (fun s : Nat × List Int => [(6, .int .i64 (s.1 : Int))]) (fun s => pts b5 (.cells (dV s.2).toArray 50) :: pts b4 (.cells (dV (List.replicate 256 0)).toArray 50) :: pts b2 (.cells (tabV m).toArray 46) :: L)
    (fun s => s.1 ≤ n ∧ Fi m n s.1 0 s.2) (fun s => n - s.1) (0, List.replicate 256 0) ⟨rfl, trivial⟩ ⟨Nat.zero_le _, by simp, fun i' k' _ _ h => by omega⟩ (Ent.app ent) ?_
  rintro ⟨i, l⟩ bg ⟨hi, fi⟩
  dsimp only at hi fi ⊢
  by_cases h : i < n
  · refine go ?_
    refine W.loopS 8796092760192 rfl (fun s : Nat × List Int => [(7, .int .i64 (s.1 : Int))]) (fun s => pts b5 (.cells (dV s.2).toArray 50) :: pts b4 (.cells (dV (List.replicate 256 0)).toArray 50) :: pts b2 (.cells (tabV m).toArray 46) :: L)
      (fun s => s.1 ≤ n ∧ Fi m n i s.1 s.2) (fun s => n - s.1) (0, l) ⟨rfl, trivial⟩ ⟨Nat.zero_le _, fi⟩ (Ent.app ent) ?_
    clear fi
    rintro ⟨k, l⟩ bg2 ⟨hk, fi⟩
    dsimp only at hk fi ⊢
    by_cases h2 : k < n
    rotate_left
    · obtain rfl : k = n := by omega
      refine go ?_
      exact ⟨(i + 1, l), ⟨rfl, trivial⟩, rfl, ⟨h, fi.row⟩, by dsimp only; omega, Ent.app ent⟩
    have fs := fi.step hn h h2
    have hV : Vt m 0 i k = if i = k then 0 else if m i k = true then 1 else 99 := rfl
    have hll := fi.1
    have hoff : 0 + (i : Int).toNat * 16 + (k : Int).toNat * 1 = 16 * i + k := by omega
    have hg := tabV_get m (i := i) (k := k) (by omega) (by omega)
    refine go ?_
    refine WO.sv rfl ?_
    refine SV.storeS (v := .int .i64 99) rfl rfl rfl (.inl (Nat.le_refl _)) (by rw [dV_len]; omega) ?_
    rw [hoff, dV_set]
    refine go ?_
    refine WO.sv rfl ?_
    refine SV.loadR (v := .bool (m i k)) (i * 16 + k) rfl (rm _) (by omega) hg ?_
    cases hm : m i k with
    | true =>
      rw [hm, if_pos (show true = true from rfl)] at hV
      refine go ?_
      refine WO.sv rfl ?_
      refine SV.storeS (v := .int .i64 1) rfl rfl rfl (.inl (Nat.le_refl _)) (by rw [dV_len, List.length_set]; omega) ?_
      rw [hoff, dV_set, List.set_set]
      by_cases hik : i = k
      · rw [if_pos hik] at hV
        rw [hV] at fs
        refine go ?_
        refine WO.sv rfl ?_
        refine SV.storeS (v := .int .i64 0) rfl rfl rfl (.inl (Nat.le_refl _)) (by rw [dV_len, List.length_set]; omega) ?_
        rw [hoff, dV_set, List.set_set]
        refine go ?_
        exact ⟨(k + 1, _), ⟨rfl, trivial⟩, rfl, ⟨h2, fs⟩, by dsimp only; omega, Ent.app ent⟩
      · rw [if_neg hik] at hV
        rw [hV] at fs
        refine go ?_
        exact ⟨(k + 1, _), ⟨rfl, trivial⟩, rfl, ⟨h2, fs⟩, by dsimp only; omega, Ent.app ent⟩
    | false =>
      rw [hm, if_neg (show ¬(false = true) by decide)] at hV
      by_cases hik : i = k
      · rw [if_pos hik] at hV
        rw [hV] at fs
        refine go ?_
        refine WO.sv rfl ?_
        refine SV.storeS (v := .int .i64 0) rfl rfl rfl (.inl (Nat.le_refl _)) (by rw [dV_len, List.length_set]; omega) ?_
        rw [hoff, dV_set, List.set_set]
        refine go ?_
        exact ⟨(k + 1, _), ⟨rfl, trivial⟩, rfl, ⟨h2, fs⟩, by dsimp only; omega, Ent.app ent⟩
      · rw [if_neg hik] at hV
        rw [hV] at fs
        refine go ?_
        exact ⟨(k + 1, _), ⟨rfl, trivial⟩, rfl, ⟨h2, fs⟩, by dsimp only; omega, Ent.app ent⟩
  obtain rfl : i = n := by omega
  have fw := fi.done
  clear fi h hi
  refine go ?_
  refine W.loopS 604462909798518494332672 rfl (fun s : Nat × List Int => [(8, .int .i64 (s.1 : Int))]) (fun s => pts b5 (.cells (dV s.2).toArray 50) :: pts b4 (.cells (dV (List.replicate 256 0)).toArray 50) :: pts b2 (.cells (tabV m).toArray 46) :: L)
    (fun s => s.1 ≤ i ∧ Fw m i s.1 s.2) (fun s => i - s.1) (0, l) ⟨rfl, trivial⟩ ⟨Nat.zero_le _, fw⟩ (Ent.app ent) ?_
  clear fw
  rintro ⟨t, l⟩ bg2 ⟨ht, fw⟩
  dsimp only at ht fw ⊢
  by_cases h : t < i
  · refine go ?_
    refine W.loopS 604462909525839610643968 rfl (fun s : Nat × List Int => [(9, .int .i64 (s.1 : Int))]) (fun s => pts b5 (.cells (dV s.2).toArray 50) :: pts b4 (.cells (dV (List.replicate 256 0)).toArray 50) :: pts b2 (.cells (tabV m).toArray 46) :: L)
      (fun s => s.1 ≤ i ∧ FwAt m i t s.1 0 s.2) (fun s => i - s.1) (0, l) ⟨rfl, trivial⟩ ⟨Nat.zero_le _, FwAt.begin fw⟩ (Ent.app ent) ?_
    clear fw
    rintro ⟨j, l⟩ bg3 ⟨hj, fa⟩
    dsimp only at hj fa ⊢
    by_cases h2 : j < i
    rotate_left
    · obtain rfl : j = i := by omega
      refine go ?_
      exact ⟨(t + 1, l), ⟨rfl, trivial⟩, rfl, ⟨h, fa.done⟩, by dsimp only; omega, Ent.app ent⟩
    refine go ?_
    refine W.loopS 604462900800115332613120 rfl (fun s : Nat × List Int => [(10, .int .i64 (s.1 : Int))]) (fun s => pts b5 (.cells (dV s.2).toArray 50) :: pts b4 (.cells (dV (List.replicate 256 0)).toArray 50) :: pts b2 (.cells (tabV m).toArray 46) :: L)
      (fun s => s.1 ≤ i ∧ FwAt m i t j s.1 s.2) (fun s => i - s.1) (0, l) ⟨rfl, trivial⟩ ⟨Nat.zero_le _, fa⟩ (Ent.app ent) ?_
    clear fa
    rintro ⟨k, l⟩ bg4 ⟨hk, fa⟩
    dsimp only at hk fa ⊢
    by_cases h3 : k < i
    rotate_left
    · obtain rfl : k = i := by omega
      refine go ?_
      exact ⟨(j + 1, l), ⟨rfl, trivial⟩, rfl, ⟨h2, fa.row⟩, by dsimp only; omega, Ent.app ent⟩
    have fs := fa.step hn h h2 h3
    have hll := fa.1.len
    have a1 := fa.1.lo j k h2 h3
    have a2 := fa.1.lo j t h2 h
    have a3 := fa.1.lo t k h h3
    have d1 := dV_get l (i := j) (k := k) hll (by omega) (by omega)
    have d2 := dV_get l (i := j) (k := t) hll (by omega) (by omega)
    have d3 := dV_get l (i := t) (k := k) hll (by omega) (by omega)
    have rd5 : RdS 1 (some ⟨b5, 0, none⟩) 256 (dV l) (pts b5 (.cells (dV l).toArray 50) :: pts b4 (.cells (dV (List.replicate 256 0)).toArray 50) :: pts b2 (.cells (tabV m).toArray 46) :: L) := RdS.all (by rw [dV_len, hll])
    generalize gd l j k = x1 at *
    generalize gd l j t = x2 at *
    generalize gd l t k = x3 at *
    refine go ?_
    refine W.drawA rfl (by kernel_rfl) (by kernel_rfl) ?_
    refine go ?_
    refine DA.q (v := .int .i64 x1) rfl rfl (SV.loadR (16 * j + k) rfl rd5 (by omega) d1 eqq) ?_
    refine go ?_
    refine DA.q (v := .int .i64 x2) rfl rfl (SV.loadR (16 * j + t) rfl rd5 (by omega) d2 eqq) ?_
    refine go ?_
    refine DA.q (v := .int .i64 x3) rfl rfl (SV.loadR (16 * t + k) rfl rd5 (by omega) d3 eqq) ?_
    refine go ?_
    refine DA.v rfl rfl rfl ?_
    refine SV.storeS (v := .int .i64 (min x1 (x2 + x3))) rfl rfl rfl (.inl (Nat.le_refl _)) (by rw [dV_len]; omega) ?_
    rw [show 0 + (j : Int).toNat * 16 + (k : Int).toNat * 1 = 16 * j + k by omega, dV_set]
    refine go ?_
    exact ⟨(k + 1, _), ⟨rfl, trivial⟩, rfl, ⟨h3, fs⟩, by dsimp only; omega, Ent.app ent⟩
  obtain rfl : t = i := by omega
  clear h ht
  refine go ?_
  refine W.loopS 162259276224750453584263422941184 rfl (fun s : Nat × List Int => [(11, .int .i64 (s.1 : Int))]) (fun s => pts b5 (.cells (dV s.2).toArray 50) :: pts b4 (.cells (dV (List.replicate 256 0)).toArray 50) :: pts b2 (.cells (tabV m).toArray 46) :: L)
    (fun s => s.1 ≤ 16 ∧ Fe t l s.1 0 s.2) (fun s => 16 - s.1) (0, l) ⟨rfl, trivial⟩ ⟨Nat.zero_le _, fw.len, fun i' k' _ _ => by rw [if_neg (by omega)]⟩ (Ent.app ent) ?_
  rintro ⟨i, l2⟩ bg3 ⟨hi, fe⟩
  dsimp only at hi fe ⊢
  by_cases h : i < 16
  · refine go ?_
    refine W.loopS 162259267157806806474544612642816 rfl (fun s : Nat × List Int => [(12, .int .i64 (s.1 : Int))]) (fun s => pts b5 (.cells (dV s.2).toArray 50) :: pts b4 (.cells (dV (List.replicate 256 0)).toArray 50) :: pts b2 (.cells (tabV m).toArray 46) :: L)
      (fun s => s.1 ≤ 16 ∧ Fe t l i s.1 s.2) (fun s => 16 - s.1) (0, l2) ⟨rfl, trivial⟩ ⟨Nat.zero_le _, fe⟩ (Ent.app ent) ?_
    clear fe
    rintro ⟨k, l2⟩ bg4 ⟨hk, fe⟩
    dsimp only at hk fe ⊢
    by_cases h2 : k < 16
    rotate_left
    · obtain rfl : k = 16 := by omega
      refine go ?_
      exact ⟨(i + 1, l2), ⟨rfl, trivial⟩, rfl, ⟨h, fe.row⟩, by dsimp only; omega, Ent.app ent⟩
    have fs := fe.step h h2
    have hll := fe.1
    have fss := fe.same h h2
    have hV : fwE t i k (gd l2 i k) = if t ≤ i ∨ t ≤ k ∨ 99 ≤ gd l2 i k then -1 else gd l2 i k := rfl
    have d1 := dV_get l2 (i := i) (k := k) hll h h2
    have rd5 : RdS 1 (some ⟨b5, 0, none⟩) 256 (dV l2) (pts b5 (.cells (dV l2).toArray 50) :: pts b4 (.cells (dV (List.replicate 256 0)).toArray 50) :: pts b2 (.cells (tabV m).toArray 46) :: L) := RdS.all (by rw [dV_len, hll])
    have hoff : 0 + (i : Int).toNat * 16 + (k : Int).toNat * 1 = 16 * i + k := by omega
    generalize gd l2 i k = x at *
    by_cases c1 : t ≤ i
    · rw [if_pos (.inl c1)] at hV
      rw [hV] at fs
      refine go ?_
      refine WO.sv rfl ?_
      refine SV.storeS (v := .int .i64 (-1)) rfl rfl rfl (.inl (Nat.le_refl _)) (by rw [dV_len]; omega) ?_
      rw [hoff, dV_set]
      refine go ?_
      exact ⟨(k + 1, _), ⟨rfl, trivial⟩, rfl, ⟨h2, fs⟩, by dsimp only; omega, Ent.app ent⟩
    by_cases c2 : t ≤ k
    · rw [if_pos (.inr (.inl c2))] at hV
      rw [hV] at fs
      refine go ?_
      refine WO.sv rfl ?_
      refine SV.storeS (v := .int .i64 (-1)) rfl rfl rfl (.inl (Nat.le_refl _)) (by rw [dV_len]; omega) ?_
      rw [hoff, dV_set]
      refine go ?_
      exact ⟨(k + 1, _), ⟨rfl, trivial⟩, rfl, ⟨h2, fs⟩, by dsimp only; omega, Ent.app ent⟩
    refine go ?_
    refine WO.sv rfl ?_
    refine SV.loadR (v := .int .i64 x) (16 * i + k) rfl rd5 (by omega) d1 ?_
    by_cases c3 : 99 ≤ x
    · rw [if_pos (.inr (.inr c3))] at hV
      rw [hV] at fs
      refine go ?_
      refine WO.sv rfl ?_
      refine SV.storeS (v := .int .i64 (-1)) rfl rfl rfl (.inl (Nat.le_refl _)) (by rw [dV_len]; omega) ?_
      rw [hoff, dV_set]
      refine go ?_
      exact ⟨(k + 1, _), ⟨rfl, trivial⟩, rfl, ⟨h2, fs⟩, by dsimp only; omega, Ent.app ent⟩
    · rw [if_neg (by omega)] at hV
      refine go ?_
      exact ⟨(k + 1, l2), ⟨rfl, trivial⟩, rfl, ⟨h2, fss hV⟩, by dsimp only; omega, Ent.app ent⟩
  obtain rfl : i = 16 := by omega
  have tab := fe.done hn (fun i k z => (ok.bd i k z).1) fw
  have hll := tab.len
  refine go ?_
  refine WO.sv rfl ?_
  refine SV.loadN (vs := dV l2) rfl (sub_full (by rw [dV_len, hll])) (by rw [dV_len, hll]; decide) ?_
  refine WO.sv rfl ?_
  refine SV.store (vs := dV l2) (l' := dV l2) rfl rfl Cel.agg (dV_cells l2 hll).1 (dV_cells l2 hll).2.1 (dV_cells l2 hll).2.2 (.inl (Nat.le_refl _)) (by rw [dV_len, List.length_replicate]; decide) (lput_full (by rw [dV_len, dV_len, hll, List.length_replicate])) ?_
  refine go ?_
  exact ⟨rfl, [_], ⟨Res.cell rfl (by rw [dV_len, hll]; decide) (sub_full (by rw [dV_len, hll])), trivial⟩, L, ent, l2, rfl, tab, rfl⟩
end Go.SL

/- Layer 34: what the laws ask of a way. -/
namespace Go.SL
open Go.Proofs
set_option linter.unusedVariables false
set_option linter.unusedSimpArgs false
set_option linter.unusedSectionVars false
set_option maxRecDepth 10000

structure WayF (m : Nat → Nat → Bool) (n a b : Nat) (w : List Nat) : Prop where
  far : (w.length : Int) - 1 = dst m a b
  lt : ∀ i, i < w.length → w.getD i 0 < n
  inj : ∀ i j, i < w.length → j < w.length → w.getD i 0 = w.getD j 0 → i = j
  edge : ∀ i, 0 < i → i < w.length → m (w.getD (i - 1) 0) (w.getD i 0) = true
  first : 0 < w.length → w.getD 0 0 = a
  last : 0 < w.length → w.getD (w.length - 1) 0 = b
  least : ∀ i c, i + 1 < w.length → c < w.getD (i + 1) 0 → m (w.getD i 0) c = true → dst m c b ≠ (w.length : Int) - 1 - i - 1
theorem WayP.facts {m : Nat → Nat → Bool} {n a b : Nat} {w : List Nat} (ha : a < n) (hb : b < n) (hn : n ≤ 16) (h : WayP m n a b w) : WayF m n a b w := by
  have hf := (h.far hn).eq.1
  rw [far_in m ha hb] at hf
  rcases h with ⟨rfl, _⟩ | ⟨_, _, l, i, bf, hi, hv, rfl⟩
  · exact ⟨hf, fun i h => by simp at h, fun i j h => by simp at h, fun i _ h => by simp at h, fun h => by simp at h, fun h => by simp at h, fun i c h => by simp at h⟩
  · rw [Int.toNat_natCast] at bf hv
    refine ⟨hf, chv_lt bf hi, chv_inj bf hi, fun i h0 h => chv_edge bf hi i h0 h, fun _ => chv_zero bf hi, fun _ => by rw [chv_last bf hi, hv], ?_⟩
    intro j c hj hc hm e
    have hcl := chv_len bf hi
    have h1 := (chv_at bf hi j (by omega)).1
    have h2 := (chv_at bf hi (j + 1) hj).1
    rw [h1] at hm
    rw [h2] at hc
    have := bf.least hi (f := (ich l i).length - 1) (j := j) (c := c) (by omega) (by omega) hm hc
    apply this
    rw [hv]
    have hd := dst_is m c b
    rw [e] at hd
    rcases hd with ⟨q, _⟩ | ⟨_, q, _⟩
    · omega
    · rw [show ((((chv l i).length : Nat) : Int) - 1 - (j : Int) - 1).toNat = (ich l i).length - 1 - j - 1 by omega] at q
      exact q
theorem dst_turn {m : Nat → Nat → Bool} {n : Nat} (ok : MtOk m n) (a b : Nat) : dst m b a = dst m a b := (dst_eq ((dst_is m a b).turn ok.sym)).symm
theorem dst_tri {m : Nat → Nat → Bool} {a b c : Nat} (h1 : 0 ≤ dst m a c) (h2 : 0 ≤ dst m c b) : 0 ≤ dst m a b ∧ dst m a b ≤ dst m a c + dst m c b := by
  rcases dst_is m a c with ⟨q, _⟩ | ⟨_, q1, _⟩
  · omega
  · rcases dst_is m c b with ⟨q, _⟩ | ⟨_, q2, _⟩
    · omega
    · have := dst_le (q1.trans q2)
      omega
theorem dst_zero {m : Nat → Nat → Bool} {a b : Nat} : dst m a b = 0 ↔ a = b := (dst_is m a b).zero
end Go.SL

/- Layer 34: what the law RouteTells asks. -/
namespace Go.SL
open Go.Proofs
set_option linter.unusedVariables false
set_option linter.unusedSimpArgs false
set_option linter.unusedSectionVars false
set_option maxRecDepth 10000

theorem lkI_pre (m : Nat → Nat → Bool) (a : Nat) (l : List (Nat × Nat)) (b : Nat) : ∀ k, ∃ r, lkI m a l (b + k) = lkI m a l b ++ r
  | 0 => ⟨[], by simp⟩
  | k + 1 => by
    obtain ⟨r, hr⟩ := lkI_pre m a l b k
    show ∃ r, (if a < b + k ∧ m a (b + k) = true then lkI m a l (b + k) ++ [(a, b + k)] else lkI m a l (b + k)) = _
    split
    · exact ⟨r ++ [(a, b + k)], by rw [hr, List.append_assoc]⟩
    · exact ⟨r, hr⟩
theorem lkO_pre (m : Nat → Nat → Bool) (n a : Nat) : ∀ k, ∃ r, lkO m n (a + k) = lkO m n a ++ r
  | 0 => ⟨[], by simp⟩
  | k + 1 => by
    obtain ⟨r, hr⟩ := lkO_pre m n a k
    obtain ⟨r2, hr2⟩ := lkI_pre m (a + k) (lkO m n (a + k)) 0 n
    rw [Nat.zero_add] at hr2
    have h0 : lkI m (a + k) (lkO m n (a + k)) 0 = lkO m n (a + k) := rfl
    rw [h0] at hr2
    refine ⟨r ++ r2, ?_⟩
    show lkI m (a + k) (lkO m n (a + k)) n = _
    rw [hr2, hr, List.append_assoc]
/-- Each pair stands where its number is. -/
theorem lk_at (m : Nat → Nat → Bool) {n a b : Nat} (ha : a < n) (hb : b < n) (hab : a < b) (hm : m a b = true) :
    (lkI m a (lkO m n a) b).length < (lkO m n n).length ∧ (lkO m n n)[(lkI m a (lkO m n a) b).length]? = some (a, b) := by
  have h1 : lkI m a (lkO m n a) (b + 1) = lkI m a (lkO m n a) b ++ [(a, b)] := by
    show (if a < b ∧ m a b = true then _ else _) = _
    rw [if_pos ⟨hab, hm⟩]
  obtain ⟨r1, e1⟩ := lkI_pre m a (lkO m n a) (b + 1) (n - (b + 1))
  rw [show b + 1 + (n - (b + 1)) = n by omega, h1] at e1
  have e2 : lkO m n (a + 1) = lkI m a (lkO m n a) n := rfl
  obtain ⟨r2, e3⟩ := lkO_pre m n (a + 1) (n - (a + 1))
  rw [show a + 1 + (n - (a + 1)) = n by omega, e2, e1] at e3
  rw [e3]
  simp
/-- The least one that is reached, of the first ones. -/
def LeastAt (m : Nat → Nat → Bool) (a b x : Nat) : Prop := x ≤ a ∧ 0 ≤ dst m a x ∧ ∀ c, c < b → 0 ≤ dst m a c → x ≤ c
theorem LeastAt.begin (m : Nat → Nat → Bool) (a : Nat) : LeastAt m a 0 a := ⟨Nat.le_refl _, by rw [dst_self]; decide, fun c h => by omega⟩
theorem LeastAt.step {m : Nat → Nat → Bool} {a b x : Nat} (h : LeastAt m a b x) : LeastAt m a (b + 1) (if 0 ≤ dst m a b then min x b else x) := by
  obtain ⟨h1, h2, h3⟩ := h
  by_cases q : 0 ≤ dst m a b
  · rw [if_pos q]
    refine ⟨by omega, ?_, fun c hc hd => ?_⟩
    · by_cases z : x ≤ b
      · rw [Nat.min_eq_left z]; exact h2
      · rw [Nat.min_eq_right (by omega)]; exact q
    · by_cases e : c = b
      · omega
      · have := h3 c (by omega) hd; omega
  · rw [if_neg q]
    refine ⟨h1, h2, fun c hc hd => ?_⟩
    by_cases e : c = b
    · subst e; exact absurd hd q
    · exact h3 c (by omega) hd
theorem LeastAt.part {m : Nat → Nat → Bool} {n a x : Nat} (ok : MtOk m n) (ha : a < n) (h : LeastAt m a n x) : PartP m a x := by
  obtain ⟨h1, h2, h3⟩ := h
  refine ⟨by rw [dst_turn ok a x]; exact h2, fun c hc => ?_⟩
  rw [dst_turn ok a c]
  have := h3 c (by omega)
  omega
/-- Whether the first ones all are reached. -/
theorem whole_iff {m : Nat → Nat → Bool} {n : Nat} (ok : MtOk m n) : WholeP m n ↔ ∀ a b, a < n → b < n → 0 ≤ dst m a b := by
  constructor
  · intro h a b ha hb
    have h1 := h a ha
    have h2 := h b hb
    exact (dst_tri (c := 0) (by rw [dst_turn ok 0 a]; exact h1) h2).1
  · intro h b hb
    exact h 0 b (by omega) hb
end Go.SL
