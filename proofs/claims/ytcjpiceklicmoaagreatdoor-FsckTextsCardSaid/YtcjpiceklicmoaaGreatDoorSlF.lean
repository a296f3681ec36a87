/- SL 15: what came in, of any type: read as a tree of cells. -/
import Derived.Test.YtcjpiceklicmoaaGreatDoorSlE
import Derived.ChangeArms
import Derived.RowKit
import Derived.WideShapes
namespace Go.SL
set_option linter.unusedVariables false
set_option linter.unusedSimpArgs false

/-- The cells cs can be read as a value of type t, in the world w. -/
def RdT (P : Program) (w : World) (t : TypeId) (cs : List Value) : Prop :=
  ∃ (H : Type) (enc : TypeId × Value → H) (base : Nat) (spare : Nat → Bool) (held : Bool) (fuel : Nat) (x : DataW H × List MemPlace), DataW.trod enc P w base spare held fuel t cs = some x
theorem RdT.of {H : Type} {enc : TypeId × Value → H} {P : Program} {w : World} {base : Nat} {spare : Nat → Bool} {held : Bool} {t : TypeId} {v : Value} {d : DataW H} {ps : List MemPlace} (h : DataW.Trod enc P w base spare held t v d ps) : RdT P w t v.cells.toList :=
  let ⟨fuel, h⟩ := h; ⟨H, enc, base, spare, held, fuel, _, h⟩
section
variable {P : Program} {w : World} {t e : TypeId} {cs : List Value}
theorem RdT.int {k : IntKind} (ht : P.underlying t = some (.int k)) (h : RdT P w t cs) : ∃ n : Int, cs = [.int k n] ∧ k.min ≤ n ∧ n ≤ k.max := by
  obtain ⟨H, enc, base, spare, held, fuel, x, h⟩ := h
  cases fuel with
  | zero => simp [DataW.trod] at h
  | succ n =>
    unfold DataW.trod at h
    rw [ht] at h
    split at h <;> simp_all
    exact (Lit.wf_int_iff _ _).1 h.1.2
theorem RdT.bool (ht : P.underlying t = some .bool) (h : RdT P w t cs) : ∃ b : Bool, cs = [.bool b] := by
  obtain ⟨H, enc, base, spare, held, fuel, x, h⟩ := h
  cases fuel with
  | zero => simp [DataW.trod] at h
  | succ n =>
    unfold DataW.trod at h
    rw [ht] at h
    split at h <;> simp_all
theorem RdT.str (ht : P.underlying t = some .string) (h : RdT P w t cs) : ∃ s : List UInt8, cs = [strV s] ∧ s.length ≤ 9223372036854775807 := by
  obtain ⟨H, enc, base, spare, held, fuel, x, h⟩ := h
  cases fuel with
  | zero => simp [DataW.trod] at h
  | succ n =>
    unfold DataW.trod at h
    rw [ht] at h
    split at h <;> simp_all
    rename_i s
    refine ⟨s.data.toList, ?_, ?_⟩
    · simp [strV]
    · have := h.1; unfold maxLen at this; simpa using this
theorem RdT.agg {fs : Array Field} (ht : P.underlying t = some (.struct fs)) (h : RdT P w t cs) : cs.length = P.cellsOf t ∧ ∀ (i : Nat) (f : Field), fs[i]? = some f → RdT P w f.type ((cs.drop f.offset).take (P.cellsOf f.type)) := by
  obtain ⟨H, enc, base, spare, held, fuel, x, h⟩ := h
  obtain ⟨xs, n, _, _, hl, hx, hf⟩ := DataW.trod_struct ht h
  refine ⟨hl, fun i f hi => ?_⟩
  have h1 : i < xs.length := by rw [hx]; exact (Array.getElem?_eq_some_iff.1 hi).1
  exact ⟨H, enc, base, spare, held, n, xs[i], by rw [hf i f hi]; simp [h1]⟩
theorem RdT.arr {n : Nat} (ht : P.underlying t = some (.array n e)) (h : RdT P w t cs) : cs.length = P.cellsOf t ∧ ∀ i, i < n → RdT P w e ((cs.drop (i * P.cellsOf e)).take (P.cellsOf e)) := by
  obtain ⟨H, enc, base, spare, held, fuel, x, h⟩ := h
  cases fuel with
  | zero => simp [DataW.trod] at h
  | succ m =>
    unfold DataW.trod at h
    rw [ht] at h
    split at h <;> simp_all
    obtain ⟨hl, xs, hp, _⟩ := h
    intro i hi
    have hlen := mapM_some_length hp
    have := mapM_some_get hp i i (by simp [hi])
    simp at hlen
    exact ⟨H, enc, base, spare, held, m, xs[i], by rw [this]; simp [hlen, hi]⟩

theorem RdS.of1 {sz n : Nat} {a : Option Addr} {xs : List Value} {L : List HP} (h0 : sz ≠ 0) (r : RdS 1 a (n * sz) xs L) : RdS sz a n xs L := by
  refine ⟨by rw [r.1, Nat.mul_one], fun h => r.2.1 (Nat.mul_ne_zero h h0), fun b off e h h' x => ?_⟩
  have := r.2.2 b off e (Nat.mul_ne_zero h h0) h' x
  rwa [Nat.mul_one] at this
/-- A slice, element by element. -/
theorem RdT.slice {sz : Nat} (ht : P.underlying t = some (.slice e)) (hC : P.cellsOf e = sz) (h0 : sz ≠ 0) (h : RdT P w t cs) :
    ∃ (a : Option Addr) (c : Nat) (xss : List (List Value)), cs = [.slice a xss.length c] ∧ xss.length ≤ 9223372036854775807 ∧ RdS sz a xss.length xss.flatten [ro (heapOf w)] ∧ ∀ xs ∈ xss, xs.length = sz ∧ RdT P w e xs := by
  subst hC
  obtain ⟨H, enc, base, spare, held, fuel, x, h⟩ := h
  rcases DataW.trod_slice ht h with ⟨rfl, _⟩ | ⟨a, len, cap, elems, rest, n, _, rfl, rfl, hb, hl, hm, hlen, hel, _, _⟩
  · exact ⟨none, 0, [], rfl, by simp, RdS.nil, fun xs hx => by cases hx⟩
  · have key : ∀ i, i < len → ∃ cs', w.cells? base (a.add (i * P.cellsOf e)) (P.cellsOf e) = some cs' ∧ ∃ y, DataW.trod enc P w base spare held n e cs' = some y := by
      intro i hi
      have h1 := hel i hi
      rw [List.getElem?_eq_getElem (by omega)] at h1
      obtain ⟨cs', h2, h3⟩ := Option.bind_eq_some_iff.1 h1
      exact ⟨cs', h2, _, h3⟩
    have build : ∀ m, m ≤ len → ∃ xss : List (List Value), xss.length = m ∧ ∀ i, (h : i < xss.length) → w.cells? base (a.add (i * P.cellsOf e)) (P.cellsOf e) = some xss[i] ∧ RdT P w e xss[i] := by
      intro m
      induction m with
      | zero => intro _; exact ⟨[], rfl, fun i h => by simp at h⟩
      | succ m ih =>
        intro hm
        obtain ⟨xss, h1, h2⟩ := ih (by omega)
        obtain ⟨cs', h3, y, h4⟩ := key m (by omega)
        refine ⟨xss ++ [cs'], by simp [h1], fun i hi => ?_⟩
        by_cases hi' : i < xss.length
        · rw [List.getElem_append_left hi']; exact h2 i hi'
        · have : i = m := by simp at hi; omega
          subst this
          rw [List.getElem_append_right (by omega)]
          simp only [h1, Nat.sub_self, List.getElem_cons_zero]
          exact ⟨h3, H, enc, base, spare, held, n, y, h4⟩
    obtain ⟨xss, h1, h2⟩ := build len (Nat.le_refl _)
    have hsz : ∀ i, (h : i < xss.length) → xss[i].length = P.cellsOf e := fun i h => (World.cells?_some (h2 i h).1).2.1
    have hflat : ∀ (l : List (List Value)), (∀ x ∈ l, x.length = P.cellsOf e) → l.flatten.length = l.length * P.cellsOf e := by
      intro l
      induction l with
      | nil => intro _; simp
      | cons x l ih =>
        intro h
        rw [List.flatten_cons, List.length_append, ih (fun y hy => h y (List.mem_cons_of_mem _ hy)), h x (List.mem_cons_self ..), List.length_cons, Nat.add_mul]; omega
    have hget : ∀ (l : List (List Value)), (∀ x ∈ l, x.length = P.cellsOf e) → ∀ i j, (h : i < l.length) → j < P.cellsOf e → l.flatten[i * P.cellsOf e + j]? = l[i][j]? := by
      intro l
      induction l with
      | nil => intro _ i j h; simp at h
      | cons x l ih =>
        intro h i j hi hj
        have hx := h x (List.mem_cons_self ..)
        rw [List.flatten_cons]
        cases i with
        | zero => rw [List.getElem?_append_left (by omega)]; simp
        | succ i =>
          rw [Nat.add_mul, List.getElem?_append_right (by omega), show i * P.cellsOf e + 1 * P.cellsOf e + j - x.length = i * P.cellsOf e + j by omega]
          simpa using ih (fun y hy => h y (List.mem_cons_of_mem _ hy)) i j (by simpa using hi) hj
    have hall : ∀ x ∈ xss, x.length = P.cellsOf e := by
      intro x hx
      obtain ⟨i, hi, rfl⟩ := List.mem_iff_getElem.1 hx
      exact hsz i hi
    have hcell : ∀ i, i < len * P.cellsOf e → w.cell? (a.add i) = xss.flatten[i]? := by
      intro i hi
      have hC : 0 < P.cellsOf e := Nat.pos_of_ne_zero h0
      have hd : i / P.cellsOf e < xss.length := by rw [h1]; exact Nat.div_lt_of_lt_mul (by rw [Nat.mul_comm]; exact hi)
      have hmod := Nat.mod_lt i hC
      have g := (World.cells?_some (h2 _ hd).1).2.2 (i % P.cellsOf e) hmod
      rw [← hget xss hall _ _ hd hmod] at g
      have e1 : i / P.cellsOf e * P.cellsOf e + i % P.cellsOf e = i := by rw [Nat.mul_comm]; exact Nat.div_add_mod i _
      rw [e1] at g
      rw [← g]
      congr 1
      unfold Addr.add
      by_cases z1 : i / P.cellsOf e * P.cellsOf e = 0 <;> by_cases z2 : i % P.cellsOf e = 0 <;> by_cases z3 : i = 0 <;> simp_all <;> omega
    refine ⟨some a, cap, xss, by rw [h1], by rw [h1]; unfold maxLen at hm; omega, RdS.of1 h0 ?_, fun xs hx => ?_⟩
    · rw [h1]
      exact cells_rd (by rw [hflat xss hall, h1]) fun _ => ⟨a, rfl, hcell⟩
    · obtain ⟨i, hi, rfl⟩ := List.mem_iff_getElem.1 hx
      exact ⟨hsz i hi, (h2 i hi).2⟩
end
/-- A list whose elements all are of a form. -/
theorem all_form {α β : Type} {g : β → α} : ∀ {l : List α} {p : β → Prop}, (∀ x ∈ l, ∃ y, x = g y ∧ p y) → ∃ ys : List β, l = ys.map g ∧ ∀ y ∈ ys, p y
  | [], _, _ => ⟨[], rfl, fun y h => by cases h⟩
  | x :: l, p, h => by
    obtain ⟨ys, h1, h2⟩ := all_form (l := l) (p := p) fun x hx => h x (List.mem_cons_of_mem _ hx)
    obtain ⟨y, rfl, hy⟩ := h x (List.mem_cons_self ..)
    exact ⟨y :: ys, by rw [h1]; rfl, fun z hz => by rcases List.mem_cons.1 hz with rfl | hz; exact hy; exact h2 z hz⟩
/-- One cell each. -/
theorem flat_one {α : Type} (g : α → Value) (l : List α) : (l.map fun x => [g x]).flatten = l.map g := by
  induction l with
  | nil => rfl
  | cons x l ih => simp [ih]

theorem flat_sub {α : Type} {g : α → List Value} {n : Nat} (hg : ∀ x, (g x).length = n) : ∀ (l : List α) (i : Nat) (h : i < l.length), lsub (l.flatMap g) (i * n) n = g l[i]
  | [], i, h => by simp at h
  | x :: l, 0, _ => by
    rw [lsub_eq, List.flatMap_cons, Nat.zero_mul, List.drop_zero, ← hg x, List.take_left]; rfl
  | x :: l, i + 1, h => by
    have ih := flat_sub hg l i (by simpa using h)
    rw [lsub_eq] at ih ⊢
    rw [List.flatMap_cons, Nat.add_mul, Nat.one_mul, ← hg x, Nat.add_comm, ← List.drop_drop, List.drop_left, hg x]
    simpa using ih
theorem flat_len {α : Type} {g : α → List Value} {n : Nat} (hg : ∀ x, (g x).length = n) : ∀ (l : List α), (l.flatMap g).length = l.length * n
  | [] => by simp
  | x :: l => by rw [List.flatMap_cons, List.length_append, flat_len hg l, hg x, List.length_cons, Nat.add_mul]; omega
theorem flatMap_single {α : Type} (g : α → Value) (l : List α) : (l.flatMap fun x => [g x]) = l.map g := by
  induction l with
  | nil => rfl
  | cons x l ih => simp [List.flatMap_cons, ih]

def u8 (x : Nat) : Value := .int .u8 x
def OkB (bs : List Nat) : Prop := ∀ x ∈ bs, x < 256

section
variable {H : Type} {enc : TypeId × Value → H} {P : Program} {w : World} {base b0 : Nat} {spare : Nat → Bool} {held : Bool} {r : Reach} {t e : TypeId} {v : Value} {d : DataW H} {ps : List MemPlace}
/-- A parameter that is a slice. -/
theorem arg_slice {β : Type} {g : β → List Value} {p : β → Prop} {sz : Nat} (ht : P.underlying t = some (.slice e)) (hC : P.cellsOf e = sz) (h0 : sz ≠ 0) (hv : Value.okWide P w r b0 t v) (h : DataW.Trod enc P w base spare held t v d ps)
    (elem : ∀ xs, xs.length = sz → RdT P w e xs → ∃ y : β, xs = g y ∧ p y) :
    ∃ (a : Option Addr) (c : Nat) (ys : List β), v = .slice a ys.length c ∧ ys.length ≤ 9223372036854775807 ∧ RdS sz a ys.length (ys.flatMap g) [ro (heapOf w)] ∧ ∀ y ∈ ys, p y := by
  obtain ⟨a, len, cap, rfl⟩ := WideShapes.okWide_slice ht hv
  obtain ⟨a', c', xss, e1, e2, e3, e4⟩ := RdT.slice ht hC h0 (RdT.of h)
  obtain ⟨ys, rfl, hy⟩ := all_form (g := g) (p := p) fun xs hx => elem xs (e4 xs hx).1 (e4 xs hx).2
  have e5 : Value.slice a len cap = .slice a' (ys.map g).length c' := by simpa [Value.cells] using e1
  injection e5 with q1 q2 q3
  subst q1; subst q2; subst q3
  rw [List.length_map] at e2 e3
  exact ⟨a, cap, ys, by rw [List.length_map], e2, by rw [List.flatMap_def]; exact e3, hy⟩
theorem arg_bytes (ht : P.underlying t = some (.slice e)) (he : P.underlying e = some (.int .u8)) (hC : P.cellsOf e = 1) (hv : Value.okWide P w r b0 t v) (h : DataW.Trod enc P w base spare held t v d ps) :
    ∃ (a : Option Addr) (c : Nat) (ys : List Nat), v = .slice a ys.length c ∧ ys.length ≤ 9223372036854775807 ∧ RdS 1 a ys.length (ys.map u8) [ro (heapOf w)] ∧ OkB ys := by
  obtain ⟨a, c, ys, h1, h2, h3, h4⟩ := arg_slice (g := fun x => [u8 x]) (p := fun x => x < 256) ht hC (by decide) hv h fun xs hl hx => by
    obtain ⟨n, rfl, h1, h2⟩ := hx.int he
    have e0 : IntKind.min .u8 = 0 := by decide
    have e1 : IntKind.max .u8 = 255 := by decide
    exact ⟨n.toNat, by simp only [u8]; rw [Int.toNat_of_nonneg (by omega)], by omega⟩
  rw [flatMap_single] at h3
  exact ⟨a, c, ys, h1, h2, h3, h4⟩
theorem arg_ints (ht : P.underlying t = some (.slice e)) (he : P.underlying e = some (.int .i64)) (hC : P.cellsOf e = 1) (hv : Value.okWide P w r b0 t v) (h : DataW.Trod enc P w base spare held t v d ps) :
    ∃ (a : Option Addr) (c : Nat) (ys : List Int), v = .slice a ys.length c ∧ ys.length ≤ 9223372036854775807 ∧ RdS 1 a ys.length (ys.map (Value.int .i64)) [ro (heapOf w)] ∧ ∀ y ∈ ys, -9223372036854775808 ≤ y ∧ y ≤ 9223372036854775807 := by
  obtain ⟨a, c, ys, h1, h2, h3, h4⟩ := arg_slice (g := fun x => [Value.int .i64 x]) (p := fun y => -9223372036854775808 ≤ y ∧ y ≤ 9223372036854775807) ht hC (by decide) hv h fun xs hl hx => by
    obtain ⟨n, rfl, h1, h2⟩ := hx.int he
    have e0 : IntKind.min .i64 = -9223372036854775808 := by decide
    have e1 : IntKind.max .i64 = 9223372036854775807 := by decide
    exact ⟨n, rfl, by omega⟩
  rw [flatMap_single] at h3
  exact ⟨a, c, ys, h1, h2, h3, h4⟩
theorem arg_int (ht : P.underlying t = some (.int .i64)) (hv : Value.okWide P w r b0 t v) (h : DataW.Trod enc P w base spare held t v d ps) : ∃ n : Int, v = .int .i64 n ∧ -9223372036854775808 ≤ n ∧ n ≤ 9223372036854775807 := by
  obtain ⟨n, rfl⟩ := WideShapes.okWide_int ht hv
  obtain ⟨m, e, h1, h2⟩ := (RdT.of h).int ht
  have e0 : IntKind.min .i64 = -9223372036854775808 := by decide
  have e1 : IntKind.max .i64 = 9223372036854775807 := by decide
  have : n = m := by simpa [Value.cells] using e
  subst this
  exact ⟨n, rfl, by omega, by omega⟩
end
section
variable {P : Program} {w : World} {t : TypeId} {xs : List Value}
theorem RdT.i64 (ht : P.underlying t = some (.int .i64)) (h : RdT P w t xs) : ∃ n : Int, xs = [.int .i64 n] ∧ -9223372036854775808 ≤ n ∧ n ≤ 9223372036854775807 := by
  obtain ⟨n, rfl, h1, h2⟩ := h.int ht
  have e0 : IntKind.min .i64 = -9223372036854775808 := by decide
  have e1 : IntKind.max .i64 = 9223372036854775807 := by decide
  exact ⟨n, rfl, by omega, by omega⟩
end
def SomeA (a : Option Addr) (m : Nat) : Prop := m ≠ 0 → ∃ b, a = some ⟨b, 0, none⟩
theorem ent_own {E sz n b : Nat} {xs : List Value} {L : List HP} (h : xs.length = n * sz) : Ent (pts b (.cells xs.toArray E) :: L) (Own E sz (.slice (some ⟨b, 0, none⟩) n n) n xs :: L) := fun k x =>
  own_of (sp := []) (fr := (0, 0)) ⟨rfl, Nat.le_refl _, h, by simp, .inl (Nat.le_refl _)⟩ (by rw [List.append_nil]; exact x)

/-- Facts and choices that items bear, at the head of a call. -/
theorem Tri.openI {P : Program} {g : FuncId} {args : Array Value} {K : Value → List HP → Prop} {α : Type} {p : α → Prop} {M : α → List HP} {L : List HP} (h : ∀ x, p x → Tri P g args K (M x ++ L)) :
    Tri P g args K (hex (fun x => conj (hpure (p x) :: M x)) :: L) :=
  Tri.exI fun x => Tri.conjI (Tri.pureI fun hp => h x hp)
theorem WO.openI {P : Program} {N : Nat} {ro : Option Nat} {all : Array Oper} {todo : List Oper} {Q : Post} {f : Frm} {α : Type} {p : α → Prop} {M : α → List HP} {L : List HP} (h : ∀ x, p x → WO P N ro all todo Q f (M x ++ L)) :
    WO P N ro all todo Q f (hex (fun x => conj (hpure (p x) :: M x)) :: L) :=
  WO.exI fun x => WO.conjI (WO.pureI fun hp => h x hp)
theorem W.openI {P : Program} {N : Nat} {ro : Option Nat} {c : Code} {Q : Post} {f : Frm} {α : Type} {p : α → Prop} {M : α → List HP} {L : List HP} (h : ∀ x, p x → W P N ro c Q f (M x ++ L)) :
    W P N ro c Q f (hex (fun x => conj (hpure (p x) :: M x)) :: L) :=
  W.exI fun x => W.conjI (W.pureI fun hp => h x hp)
theorem Ent.closeI {α : Type} {p : α → Prop} {M : α → List HP} {L R : List HP} (x : α) (hp : p x) (e : Ent L (M x ++ R)) : Ent L (hex (fun x => SL.conj (hpure (p x) :: M x)) :: R) :=
  Ent.ex x (Ent.conj (Ent.pure hp e))
/-- Bytes of one's own. -/
theorem RdS.ownS {E : Nat} {n c : Nat} {a : Option Addr} {xs : List Value} {L R : List HP} (t : Tk L (Own E 1 (.slice a n c) n xs) R) (ha : SomeA a n) (hl : xs.length = n) : RdS 1 a n xs L := RdS.own t ha (by omega)
/-- A nil slice of one's own. -/
theorem Ent.ownNil {E sz : Nat} {L M : List HP} (e : Ent L M) : Ent L (Own E sz (.slice none 0 0) 0 [] :: M) := fun h x => own_nil (e h x)
theorem flat_get {α : Type} {g : α → List Value} {n : Nat} (hg : ∀ x, (g x).length = n) (l : List α) (i j : Nat) (h : i < l.length) (hj : j < n) : (l.flatMap g)[i * n + j]? = (g l[i])[j]? := by
  have h1 := flat_sub hg l i h
  have h2 : i * n + n ≤ (l.flatMap g).length := by rw [flat_len hg]; have : (i + 1) * n ≤ l.length * n := Nat.mul_le_mul_right _ h; rw [Nat.add_mul] at this; omega
  rw [← h1, lsub_get _ _ _ _ h2 hj]
section
variable {H : Type} {enc : TypeId × Value → H} {P : Program} {w : World} {base b0 : Nat} {spare : Nat → Bool} {held : Bool} {r : Reach} {t e : TypeId} {v : Value} {d : DataW H} {ps : List MemPlace}
theorem OkB.bytes : ∀ {ys : List Nat}, OkB ys → ∃ zs : List UInt8, ys.map u8 = zs.map u8V
  | [], _ => ⟨[], rfl⟩
  | y :: ys, h => by
    obtain ⟨zs, hz⟩ := OkB.bytes (ys := ys) fun x hx => h x (List.mem_cons_of_mem _ hx)
    have hy := h y (List.mem_cons_self ..)
    refine ⟨UInt8.ofNat y :: zs, ?_⟩
    rw [List.map_cons, List.map_cons, hz]
    congr 1
    simp only [u8, u8V]
    have : (UInt8.ofNat y).toNat = y := by simp; omega
    rw [this]
theorem arg_bytesU (ht : P.underlying t = some (.slice e)) (he : P.underlying e = some (.int .u8)) (hC : P.cellsOf e = 1) (hv : Value.okWide P w r b0 t v) (h : DataW.Trod enc P w base spare held t v d ps) :
    ∃ (a : Option Addr) (c : Nat) (ys : List UInt8), v = .slice a ys.length c ∧ ys.length ≤ 9223372036854775807 ∧ RdS 1 a ys.length (ys.map u8V) [ro (heapOf w)] := by
  obtain ⟨a, c, ys, h1, h2, h3, h4⟩ := arg_bytes ht he hC hv h
  obtain ⟨zs, hz⟩ := h4.bytes
  have hl : ys.length = zs.length := by have := congrArg List.length hz; simpa using this
  rw [hz, hl] at h3
  rw [hl] at h1 h2
  exact ⟨a, c, zs, h1, h2, h3⟩
theorem RdT.byte {xs : List Value} (ht : P.underlying t = some (.int .u8)) (h : RdT P w t xs) : ∃ c : UInt8, xs = [u8V c] := by
  obtain ⟨n, rfl, h1, h2⟩ := h.int ht
  have e0 : IntKind.min .u8 = 0 := by decide
  have e1 : IntKind.max .u8 = 255 := by decide
  refine ⟨UInt8.ofNat n.toNat, ?_⟩
  have : (UInt8.ofNat n.toNat).toNat = n.toNat := by simp; omega
  rw [u8V, this, Int.toNat_of_nonneg (by omega)]
theorem RdT.ints {xs : List Value} (ht : P.underlying t = some (.slice e)) (he : P.underlying e = some (.int .i64)) (hC : P.cellsOf e = 1) (h : RdT P w t xs) :
    ∃ (a : Option Addr) (c : Nat) (ys : List Int), xs = [.slice a ys.length c] ∧ ys.length ≤ 9223372036854775807 ∧ RdS 1 a ys.length (ys.map (Value.int .i64)) [ro (heapOf w)] ∧ ∀ y ∈ ys, -9223372036854775808 ≤ y ∧ y ≤ 9223372036854775807 := by
  obtain ⟨a, c, xss, h1, h2, h3, h4⟩ := RdT.slice ht hC (by decide) h
  obtain ⟨ys, rfl, hy⟩ := all_form (g := fun n : Int => [Value.int .i64 n]) (p := fun y => -9223372036854775808 ≤ y ∧ y ≤ 9223372036854775807) fun xs hx => by
    obtain ⟨n, e1, e2⟩ := (h4 xs hx).2.i64 he
    exact ⟨n, e1, e2⟩
  rw [List.length_map] at h1 h2 h3
  rw [flat_one] at h3
  exact ⟨a, c, ys, h1, h2, h3, hy⟩
end
theorem i64_mask (a : Int) (k : Nat) (hk : k < 9223372036854775808) : ∃ x : Nat, x ≤ k ∧ IntKind.wrap .i64 (((a % 2 ^ IntKind.bits .i64).toNat &&& (((k : Nat) : Int) % 2 ^ IntKind.bits .i64).toNat : Nat) : Int) = (x : Int) := by
  have e : (((k : Nat) : Int) % 2 ^ IntKind.bits .i64).toNat = k := by
    rw [show IntKind.bits .i64 = 64 from rfl]; omega
  rw [e]
  refine ⟨(a % 2 ^ IntKind.bits .i64).toNat &&& k, Nat.and_le_right, ?_⟩
  have := Nat.and_le_right (n := (a % 2 ^ IntKind.bits .i64).toNat) (m := k)
  generalize (a % 2 ^ IntKind.bits .i64).toNat &&& k = x at *
  exact i64w (by omega) (by omega)
end Go.SL
