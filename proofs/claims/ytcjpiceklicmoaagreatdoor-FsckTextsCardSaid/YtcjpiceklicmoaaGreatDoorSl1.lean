/- SL 1: partial heaps, assertions as lists of items, and the weakest precondition of the model's small programs ('Sem') over them. Generic in the program. -/
import Derived.CallsIn
import Derived.OrdersIn
import Derived.Laws.World
namespace Go.SL

abbrev PH := Nat → Option Obj
abbrev HP := PH → Prop

def Disj (h k : PH) : Prop := ∀ b, h b = none ∨ k b = none
def Sub (h k : PH) : Prop := ∀ b o, h b = some o → k b = some o
def un (h k : PH) : PH := fun b => match h b with | some o => some o | none => k b

theorem Sub.refl (h : PH) : Sub h h := fun _ _ e => e
theorem Sub.trans {h k l : PH} (a : Sub h k) (b : Sub k l) : Sub h l := fun x o e => b x o (a x o e)
theorem Disj.symm {h k : PH} (d : Disj h k) : Disj k h := fun b => (d b).symm
theorem un_left {h k : PH} : Sub h (un h k) := fun b o e => by simp [un, e]
theorem un_right {h k : PH} (d : Disj h k) : Sub k (un h k) := fun b o e => by
  rcases d b with x | x
  · simp [un, x, e]
  · simp [e] at x
theorem un_sub {h k l : PH} (a : Sub h l) (b : Sub k l) : Sub (un h k) l := fun x o e => by
  unfold un at e
  cases hx : h x with
  | some y => rw [hx] at e; simp at e; subst e; exact a _ _ hx
  | none => rw [hx] at e; exact b _ _ e
theorem Disj.un {h k l : PH} (a : Disj h k) (b : Disj h l) : Disj h (un k l) := fun x => by
  rcases a x with p | p
  · exact .inl p
  · rcases b x with q | q
    · exact .inl q
    · exact .inr (by simp [SL.un, p, q])
theorem Disj.sub {h k h' k' : PH} (d : Disj h k) (a : Sub h' h) (b : Sub k' k) : Disj h' k' := fun x => by
  cases e : h' x with
  | none => exact .inl rfl
  | some o =>
    cases e2 : k' x with
    | none => exact .inr rfl
    | some o2 => have := a _ _ e; have := b _ _ e2; rcases d x with y | y <;> simp_all

/-- The items of L hold of disjoint parts of h. (Affine: h may have more.) -/
def Has : List HP → PH → Prop
  | [], _ => True
  | A :: L, h => ∃ h1 h2, Disj h1 h2 ∧ Sub h1 h ∧ Sub h2 h ∧ A h1 ∧ Has L h2

theorem Has.mono {L : List HP} {h k : PH} (x : Has L h) (s : Sub h k) : Has L k := by
  cases L with
  | nil => trivial
  | cons A L => obtain ⟨h1, h2, d, a, b, c, e⟩ := x; exact ⟨h1, h2, d, a.trans s, b.trans s, c, e⟩

theorem Has.tail {A : HP} {L : List HP} {h : PH} (x : Has (A :: L) h) : Has L h := by
  obtain ⟨h1, h2, d, a, b, c, e⟩ := x; exact e.mono b

theorem Has.swap {A B : HP} {L : List HP} {h : PH} (x : Has (A :: B :: L) h) : Has (B :: A :: L) h := by
  obtain ⟨h1, h2, d, a, b, c, h3, h4, d', a', b', c', e⟩ := x
  refine ⟨h3, un h1 h4, ?_, a'.trans b, un_sub a (b'.trans b), c', h1, h4, ?_, un_left, un_right ?_, c, e⟩
  · exact ((d.sub (Sub.refl _) a').symm).un d'
  · exact d.sub (Sub.refl _) b'
  · exact d.sub (Sub.refl _) b'

theorem Has.cons_of {A : HP} {L M : List HP} (f : ∀ h, Has L h → Has M h) {h : PH} (x : Has (A :: L) h) : Has (A :: M) h := by
  obtain ⟨h1, h2, d, a, b, c, e⟩ := x; exact ⟨h1, h2, d, a, b, c, f _ e⟩

theorem Has.perm {L M : List HP} (p : L.Perm M) : ∀ h, Has L h → Has M h := by
  induction p with
  | nil => exact fun _ x => x
  | cons A _ ih => exact fun h x => Has.cons_of ih x
  | swap A B L => exact fun h x => x.swap
  | trans _ _ i j => exact fun h x => j h (i h x)

/-- Items as one item. -/
def conj (L : List HP) : HP := fun h => Has L h
def pts (b : Nat) (o : Obj) : HP := fun h => h b = some o
def hpure (p : Prop) : HP := fun _ => p
def hex {α : Type} (G : α → HP) : HP := fun h => ∃ x, G x h
/-- All blocks of h0, as they are. -/
def ro (h0 : PH) : HP := fun h => Sub h0 h

theorem has_append {L M : List HP} : ∀ {h : PH}, Has (L ++ M) h ↔ ∃ h1 h2, Disj h1 h2 ∧ Sub h1 h ∧ Sub h2 h ∧ Has L h1 ∧ Has M h2 := by
  induction L with
  | nil =>
    intro h
    constructor
    · intro x; exact ⟨fun _ => none, h, fun _ => .inl rfl, fun _ _ e => by simp at e, Sub.refl _, trivial, x⟩
    · rintro ⟨h1, h2, d, a, b, _, e⟩; exact e.mono b
  | cons A L ih =>
    intro h
    constructor
    · rintro ⟨h1, h2, d, a, b, c, e⟩
      obtain ⟨h3, h4, d', a', b', c', e'⟩ := ih.1 e
      refine ⟨un h1 h3, h4, ?_, un_sub a (a'.trans b), b'.trans b, ⟨h1, h3, ?_, un_left, un_right ?_, c, c'⟩, e'⟩
      · exact ((d.sub (Sub.refl _) b').symm.un d'.symm).symm
      · exact d.sub (Sub.refl _) a'
      · exact d.sub (Sub.refl _) a'
    · rintro ⟨h1, h2, d, a, b, ⟨h3, h4, d', a', b', c', e'⟩, f⟩
      refine ⟨h3, un h4 h2, ?_, a'.trans a, un_sub (b'.trans a) b, c', ih.2 ⟨h4, h2, ?_, un_left, un_right ?_, e', f⟩⟩
      · exact d'.un (d.sub a' (Sub.refl _))
      · exact d.sub b' (Sub.refl _)
      · exact d.sub b' (Sub.refl _)

theorem has_conj {L M : List HP} {h : PH} : Has (conj L :: M) h ↔ Has (L ++ M) h := by
  rw [has_append]; rfl
theorem has_pure {p : Prop} {L : List HP} {h : PH} : Has (hpure p :: L) h ↔ p ∧ Has L h := by
  constructor
  · rintro ⟨h1, h2, d, a, b, c, e⟩; exact ⟨c, e.mono b⟩
  · rintro ⟨c, e⟩; exact ⟨fun _ => none, h, fun _ => .inl rfl, fun _ _ e => by simp at e, Sub.refl _, c, e⟩
theorem has_hex {α : Type} {G : α → HP} {L : List HP} {h : PH} : Has (hex G :: L) h ↔ ∃ x, Has (G x :: L) h := by
  constructor
  · rintro ⟨h1, h2, d, a, b, ⟨x, c⟩, e⟩; exact ⟨x, h1, h2, d, a, b, c, e⟩
  · rintro ⟨x, h1, h2, d, a, b, c, e⟩; exact ⟨h1, h2, d, a, b, ⟨x, c⟩, e⟩

theorem has_pts {b : Nat} {o : Obj} {L : List HP} {h : PH} (x : Has (pts b o :: L) h) : h b = some o := by
  obtain ⟨h1, h2, d, a, _, c, _⟩ := x; exact a _ _ c

theorem has_off {L : List HP} {h k : PH} (x : Has L h) (s : ∀ b o, h b = some o → k b = some o) : Has L k := x.mono s

/-- A block that one item has is written. -/
theorem has_set {b : Nat} {o o' : Obj} {L : List HP} {h k : PH} (x : Has (pts b o :: L) h) (e : ∀ c, k c = if c = b then some o' else h c) : Has (pts b o' :: L) k := by
  obtain ⟨h1, h2, d, a, a', c, f⟩ := x
  have hb2 : h2 b = none := by rcases d b with y | y <;> simp_all [pts]
  refine ⟨fun c => if c = b then some o' else none, h2, fun c => ?_, fun c y z => ?_, fun c y z => ?_, by simp [pts], f⟩
  · by_cases hc : c = b
    · subst hc; exact .inr hb2
    · exact .inl (by simp [hc])
  · by_cases hc : c = b
    · subst hc; simpa [e] using z
    · simp [hc] at z
  · have hc : c ≠ b := by rintro rfl; simp [hb2] at z
    rw [e, if_neg hc]; exact a' _ _ z

/-- A new block. -/
theorem has_new {b : Nat} {o : Obj} {L : List HP} {h k : PH} (x : Has L h) (hb : h b = none) (e : ∀ c, k c = if c = b then some o else h c) : Has (pts b o :: L) k := by
  refine ⟨fun c => if c = b then some o else none, h, fun c => ?_, fun c y z => ?_, fun c y z => ?_, by simp [pts], x⟩
  · by_cases hc : c = b
    · subst hc; exact .inr hb
    · exact .inl (by simp [hc])
  · by_cases hc : c = b
    · subst hc; simpa [e] using z
    · simp [hc] at z
  · have hc : c ≠ b := by rintro rfl; simp [hb] at z
    rw [e, if_neg hc]; exact z

/-! ### Reading and writing a block by its number -/
class Rd (L : List HP) (b : Nat) (o : outParam Obj) : Prop where
  rd : ∀ h, Has L h → h b = some o
instance Rd.here {b : Nat} {o : Obj} {L : List HP} : Rd (pts b o :: L) b o := ⟨fun _ x => has_pts x⟩
instance Rd.there {A : HP} {b : Nat} {o : Obj} {L : List HP} [r : Rd L b o] : Rd (A :: L) b o := ⟨fun h x => r.rd h x.tail⟩

class Wr (L : List HP) (b : Nat) (o : outParam Obj) (M : outParam (Obj → List HP)) : Prop where
  rd : ∀ h, Has L h → h b = some o
  wr : ∀ h k o', Has L h → (∀ c, k c = if c = b then some o' else h c) → Has (M o') k
instance Wr.here {b : Nat} {o : Obj} {L : List HP} : Wr (pts b o :: L) b o (fun o' => pts b o' :: L) := ⟨fun _ x => has_pts x, fun _ _ _ x e => has_set x e⟩
instance Wr.there {A : HP} {b : Nat} {o : Obj} {L : List HP} {M : Obj → List HP} [r : Wr L b o M] : Wr (A :: L) b o (fun o' => A :: M o') :=
  ⟨fun h x => r.rd h x.tail, fun h k o' x e => by
    obtain ⟨h1, h2, d, a, a', c, f⟩ := x
    have hb2 := r.rd _ f
    have hb1 : h1 b = none := by rcases d b with y | y <;> simp_all
    refine ⟨h1, fun c => if c = b then some o' else h2 c, fun c => ?_, fun c y z => ?_, fun c y z => ?_, c, r.wr h2 _ o' f (fun _ => rfl)⟩
    · by_cases hc : c = b
      · subst hc; exact .inl hb1
      · simpa [hc] using d c
    · have hc : c ≠ b := by rintro rfl; simp [hb1] at z
      rw [e, if_neg hc]; exact a _ _ z
    · by_cases hc : c = b
      · subst hc; simpa [e] using z
      · rw [e, if_neg hc]; simp [hc] at z; exact a' _ _ z⟩

theorem Rd.append {L M : List HP} {b : Nat} {o : Obj} (r : Rd L b o) {h : PH} (x : Has (L ++ M) h) : h b = some o := by
  obtain ⟨h1, h2, d, a, _, c, _⟩ := has_append.1 x
  exact a _ _ (r.rd _ c)
theorem Wr.append {L : List HP} {M : Obj → List HP} {b : Nat} {o : Obj} (r : Wr L b o M) (N : List HP) : Wr (L ++ N) b o (fun o' => M o' ++ N) :=
  ⟨fun h x => by obtain ⟨h1, h2, d, a, _, c, _⟩ := has_append.1 x; exact a _ _ (r.rd _ c), fun h k o' x e => by
    obtain ⟨h1, h2, d, a, a', c, f⟩ := has_append.1 x
    have hb1 := r.rd _ c
    have hb2 : h2 b = none := by rcases d b with y | y <;> simp_all
    refine has_append.2 ⟨fun c => if c = b then some o' else h1 c, h2, fun c => ?_, fun c y z => ?_, fun c y z => ?_, r.wr h1 _ o' c (fun _ => rfl), f⟩
    · by_cases hc : c = b
      · subst hc; exact .inr hb2
      · simpa [hc] using d c
    · by_cases hc : c = b
      · subst hc; simpa [e] using z
      · rw [e, if_neg hc]; simp [hc] at z; exact a _ _ z
    · have hc : c ≠ b := by rintro rfl; simp [hb2] at z
      rw [e, if_neg hc]; exact a' _ _ z⟩

/-! ### Worlds -/
def heapOf (w : World) : PH := fun b => w.heap[b]?

structure Keep (w w' : World) : Prop where
  os : w'.os = w.os
  tape : w'.tape = w.tape
  output : w'.output = w.output
  size : w.heap.size ≤ w'.heap.size
theorem Keep.refl (w : World) : Keep w w := ⟨rfl, rfl, rfl, Nat.le_refl _⟩
theorem Keep.trans {a b c : World} (x : Keep a b) (y : Keep b c) : Keep a c :=
  ⟨y.os.trans x.os, y.tape.trans x.tape, y.output.trans x.output, Nat.le_trans x.size y.size⟩

/-- The weakest precondition of a small program. -/
def SW {α : Type} (P : Program) (s : Sem α) (K : α → List HP → Prop) (L : List HP) : Prop :=
  ∀ (Fr : List HP) (w : World), Has (L ++ Fr) (heapOf w) → ∃ r w' L', s.run P w = .ok r w' ∧ K r L' ∧ Has (L' ++ Fr) (heapOf w') ∧ Keep w w'

section
variable {α β : Type} {P : Program} {L : List HP}

theorem SW.mono {s : Sem α} {K K' : α → List HP → Prop} (h : SW P s K L) (k : ∀ r L, K r L → K' r L) : SW P s K' L :=
  fun Fr w x => let ⟨r, w', L', a, b, c, d⟩ := h Fr w x; ⟨r, w', L', a, k _ _ b, c, d⟩
theorem SW.pure {a : α} {K : α → List HP → Prop} (h : K a L) : SW P (Pure.pure a) K L := fun _ w x => ⟨a, w, L, rfl, h, x, Keep.refl _⟩
theorem SW.bind {s : Sem α} {k : α → Sem β} {K : β → List HP → Prop} (h : SW P s (fun a L => SW P (k a) K L) L) : SW P (s >>= k) K L := by
  intro Fr w x
  obtain ⟨r, w', L', a, b, c, d⟩ := h Fr w x
  obtain ⟨r', w'', L'', a', b', c', d'⟩ := b Fr w' c
  exact ⟨r', w'', L'', by rw [Sem.run_bind, a]; exact a', b', c', d.trans d'⟩
theorem SW.program {k : Program → Sem α} {K : α → List HP → Prop} (h : SW P (k P) K L) : SW P (Go.program >>= k) K L :=
  SW.bind (fun _ w x => ⟨P, w, L, rfl, h, x, Keep.refl _⟩)
theorem SW.ok {s : Sem α} {a : α} {K : α → List HP → Prop} (e : ∀ w, s.run P w = .ok a w) (h : K a L) : SW P s K L := fun _ w x => ⟨a, w, L, e w, h, x, Keep.refl _⟩
/-- What the run is, where the heap has what the items say. -/
theorem SW.reads {s : Sem α} {a : α} {K : α → List HP → Prop} (e : ∀ w, (∀ h, (∀ b o, Rd L b o → h b = some o) → h = heapOf w → s.run P w = .ok a w)) (h : K a L) : SW P s K L :=
  fun _ w x => ⟨a, w, L, e w _ (fun _ _ r => r.append x) rfl, h, x, Keep.refl _⟩

theorem cell_of {w : World} {b : Nat} {cs : Array Value} {T : TypeId} {fr : Nat × Nat} (e : heapOf w b = some (.cells cs T fr)) (off : Nat) : w.cell? ⟨b, off, none⟩ = cs[off]? := by
  simp only [heapOf] at e; simp [World.cell?, e]
theorem frozen_of {w : World} {b : Nat} {cs : Array Value} {T : TypeId} {fr : Nat × Nat} (e : heapOf w b = some (.cells cs T fr)) (off : Nat) : w.frozen? ⟨b, off, none⟩ = (fr.1 ≤ off && off < fr.2) := by
  simp only [heapOf] at e; simp [World.frozen?, e]
theorem shape_of {w : World} {b : Nat} {cs : Array Value} {T : TypeId} {fr : Nat × Nat} (e : heapOf w b = some (.cells cs T fr)) : w.shape? b = some (T, cs.size) := by
  simp only [heapOf] at e; simp [World.shape?, e]

theorem SW.load {b off : Nat} {cs : Array Value} {T : TypeId} {fr : Nat × Nat} {v : Value} {K : Value → List HP → Prop} (r : Rd L b (.cells cs T fr)) (hc : cs[off]? = some v) (h : K v L) (m : Mode := .plain) :
    SW P (Go.load ⟨b, off, none⟩ m) K L := fun _ w x => ⟨v, w, L, by simp [cell_of (r.append x), hc], h, x, Keep.refl _⟩

theorem heapOf_setCell {w : World} {b off : Nat} {cs : Array Value} {T : TypeId} {fr : Nat × Nat} (e : heapOf w b = some (.cells cs T fr)) (v : Value) (c : Nat) :
    heapOf (w.setCell ⟨b, off, none⟩ v) c = if c = b then some (.cells (cs.setIfInBounds off v) T fr) else heapOf w c := by
  simp only [heapOf, World.setCell, Array.getElem?_modify] at e ⊢
  by_cases h : b = c
  · subst h; simp [e]
  · rw [if_neg h, if_neg (fun x => h x.symm)]

/-- A value of one cell. -/
def isCell : Value → Bool
  | .agg _ | .tuple _ => false
  | _ => true

theorem SW.store {b off : Nat} {cs : Array Value} {T : TypeId} {fr : Nat × Nat} {v : Value} {M : Obj → List HP} {K : Unit → List HP → Prop} (r : Wr L b (.cells cs T fr) M) (hv : isCell v = true) (ho : off < cs.size)
    (hf : (fr.1 ≤ off && off < fr.2) = false) (h : K () (M (.cells (cs.setIfInBounds off v) T fr))) (m : Mode := .plain) : SW P (Go.store ⟨b, off, none⟩ v m) K L := by
  intro Fr w x
  have r' := r.append Fr
  have e := r'.rd _ x
  have hc : w.cell? ⟨b, off, none⟩ = some cs[off] := by rw [cell_of e]; simp [ho]
  have hfz : w.frozen? ⟨b, off, none⟩ = false := by rw [frozen_of e]; exact hf
  refine ⟨(), w.setCell ⟨b, off, none⟩ v, M (.cells (cs.setIfInBounds off v) T fr), ?_, h, r'.wr _ _ _ x (heapOf_setCell e v), ⟨rfl, rfl, rfl, by simp [World.setCell]⟩⟩
  cases v <;> simp [isCell] at hv <;> simp [Go.store, Sem.run, hc, hfz]

theorem heapOf_push (w : World) (o : Obj) (c : Nat) : heapOf { w with heap := w.heap.push o } c = if c = w.heap.size then some o else heapOf w c := by
  simp only [heapOf, Array.getElem?_push]
theorem heapOf_fresh (w : World) : heapOf w w.heap.size = none := by simp [heapOf]

theorem SW.new {o : Obj} {K : Nat → List HP → Prop} (h : ∀ b, K b (pts b o :: L)) : SW P (Go.newObj o) K L := by
  intro Fr w x
  exact ⟨w.heap.size, { w with heap := w.heap.push o }, pts w.heap.size o :: L, rfl, h _, has_new x (heapOf_fresh w) (heapOf_push w o), ⟨rfl, rfl, rfl, by simp⟩⟩

theorem SW.shape {b : Nat} {cs : Array Value} {T : TypeId} {fr : Nat × Nat} {K : Option (TypeId × Nat) → List HP → Prop} (r : Rd L b (.cells cs T fr)) (h : K (some (T, cs.size)) L) : SW P (Go.shape b) K L :=
  fun _ w x => ⟨some (T, cs.size), w, L, by simp [Go.shape, Sem.run, shape_of (r.append x)], h, x, Keep.refl _⟩

theorem SW.frozen {b off : Nat} {cs : Array Value} {T : TypeId} {fr : Nat × Nat} {K : Bool → List HP → Prop} (r : Rd L b (.cells cs T fr)) (h : K (fr.1 ≤ off && off < fr.2) L) : SW P (Go.frozen ⟨b, off, none⟩) K L :=
  fun _ w x => ⟨_, w, L, by simp only [Go.frozen, Sem.run, frozen_of (r.append x)], h, x, Keep.refl _⟩

theorem SW.choose {q : Question} {K : Nat → List HP → Prop} (h : ∀ t, K (if q.forced then 0 else q.cut t) L) : SW P (Go.choose q) K L := by
  intro Fr w x
  cases hq : q.forced with
  | true => exact ⟨0, w, L, by simp [Go.choose, Sem.run, hq], by simpa [hq] using h 0, x, Keep.refl _⟩
  | false => exact ⟨q.cut (w.tape w.drawn q), { w with drawn := w.drawn + 1 }, L, by simp [Go.choose, Sem.run, hq], by simpa [hq] using h (w.tape w.drawn q), x, ⟨rfl, rfl, rfl, Nat.le_refl _⟩⟩

theorem heapOf_freeze {w : World} {b off n : Nat} {cs : Array Value} {T : TypeId} {fr : Nat × Nat} (e : heapOf w b = some (.cells cs T fr)) (hn : n ≠ 0) (c : Nat) :
    heapOf (w.freeze { block := b, off := off } n) c = if c = b then some (.cells cs T (if fr.1 == fr.2 then (off, off + n) else (min fr.1 off, max fr.2 (off + n)))) else heapOf w c := by
  simp only [heapOf, World.freeze, hn, if_false, Array.getElem?_modify] at e ⊢
  by_cases h : b = c
  · subst h; simp [e]
  · rw [if_neg h, if_neg (fun x => h x.symm)]
theorem SW.freeze {b off n : Nat} {cs : Array Value} {T : TypeId} {fr : Nat × Nat} {M : Obj → List HP} {K : Unit → List HP → Prop} (r : Wr L b (.cells cs T fr) M) (hn : n ≠ 0)
    (h : K () (M (.cells cs T (if fr.1 == fr.2 then (off, off + n) else (min fr.1 off, max fr.2 (off + n)))))) : SW P (Go.freeze { block := b, off := off } n) K L := by
  intro Fr w x
  have r' := r.append Fr
  have e := r'.rd _ x
  exact ⟨(), w.freeze { block := b, off := off } n, _, rfl, h, r'.wr _ _ _ x (heapOf_freeze e hn), ⟨by simp [World.freeze, hn], by simp [World.freeze, hn], by simp [World.freeze, hn], by simp [World.freeze, hn]⟩⟩

/-- An object that is no row of cells. -/
def noCells : Obj → Bool
  | .cells .. => false
  | _ => true
theorem SW.getObj {b : Nat} {o : Obj} {K : Obj → List HP → Prop} (r : Rd L b o) (ho : noCells o = true) (h : K o L) : SW P (Go.getObj b) K L := by
  intro Fr w x
  have e := r.append x
  refine ⟨o, w, L, ?_, h, x, Keep.refl _⟩
  simp only [heapOf] at e
  cases o <;> simp [noCells] at ho <;> simp [Go.getObj, Sem.run, e]
theorem SW.setObj {b : Nat} {o o' : Obj} {M : Obj → List HP} {K : Unit → List HP → Prop} (r : Wr L b o M) (ho : noCells o = true) (h : K () (M o')) : SW P (Go.setObj b o') K L := by
  intro Fr w x
  have r' := r.append Fr
  have e := r'.rd _ x
  refine ⟨(), { w with heap := w.heap.setIfInBounds b o' }, M o', ?_, h, r'.wr _ _ _ x fun c => ?_, ⟨rfl, rfl, rfl, by simp⟩⟩
  · simp only [heapOf] at e
    cases o <;> simp [noCells] at ho <;> simp [Go.setObj, Sem.run, e]
  · simp only [heapOf] at e ⊢
    have hb : b < w.heap.size := (Array.getElem?_eq_some_iff.1 e).1
    rw [Array.getElem?_setIfInBounds]
    by_cases hc : b = c
    · subst hc; simp [hb]
    · rw [if_neg hc, if_neg (fun y => hc y.symm)]
theorem SW.mark {m : Mark} {K : Unit → List HP → Prop} (h : K () L) : SW P (Go.mark m) K L := fun _ w x => ⟨(), w, L, rfl, h, x, Keep.refl _⟩
theorem SW.askRoom {n : Nat} {K : Unit → List HP → Prop} (h : K () L) : SW P (Go.askRoom n) K L := by
  unfold Go.askRoom; split
  · exact SW.mark h
  · exact SW.pure h
theorem SW.underlying {t : TypeId} {d : TypeDesc} {K : TypeDesc → List HP → Prop} (e : P.underlying t = some d) (h : K d L) : SW P (Go.underlying t) K L :=
  SW.ok (fun w => by simp [Go.underlying, Go.program, Sem.run, e]) h
theorem SW.typeInfo {t : TypeId} {i : TypeInfo} {K : TypeInfo → List HP → Prop} (e : P.info? t = some i) (h : K i L) : SW P (Go.typeInfo t) K L :=
  SW.ok (fun w => by simp [Go.typeInfo, Go.program, Sem.run, e]) h
theorem SW.sizeOf {t n : Nat} {K : Nat → List HP → Prop} (e : (P.info? t).map (·.size) = some n) (h : K n L) : SW P (Go.sizeOf t) K L := by
  cases hi : P.info? t with
  | none => simp [hi] at e
  | some i => simp [hi] at e; subst e; exact SW.bind (SW.typeInfo hi (SW.pure h))
theorem SW.zeroValue {t : Nat} {z : Value} {K : Value → List HP → Prop} (e : (P.info? t).bind (·.zero) = some z) (h : K z L) : SW P (Go.zeroValue t) K L := by
  cases hi : P.info? t with
  | none => simp [hi] at e
  | some i => simp [hi] at e; refine SW.bind (SW.typeInfo hi ?_); rw [e]; exact SW.pure h
/-- Items may be put in another order, and some let go. -/
theorem SW.has {s : Sem α} {K : α → List HP → Prop} {M : List HP} (p : ∀ Fr h, Has (L ++ Fr) h → Has (M ++ Fr) h) (x : SW P s K M) : SW P s K L := fun Fr w y => x Fr w (p Fr _ y)
end
end Go.SL
