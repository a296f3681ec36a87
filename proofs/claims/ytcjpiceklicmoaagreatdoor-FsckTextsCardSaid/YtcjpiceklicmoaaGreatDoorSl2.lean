/- SL 2: frames as functions, calls as triples, and the weakest precondition of code over items: control. Generic in the program. -/
import Derived.Test.YtcjpiceklicmoaaGreatDoorSl1
namespace Go.SL
set_option linter.unusedVariables false
set_option linter.unusedSimpArgs false

def FW (ro : Option Nat) : Fence := { fn := fun _ => True, depth := none, alive := false, round := ro }
theorem FW_room (ro : Option Nat) (n : Nat) : (FW ro).room n := fun _ h => by simp [FW] at h

structure Frm where
  v : Nat → Value
  ds : List Deferred
def Frm.put (f : Frm) (t : Nat) (x : Value) : Frm := { v := fun s => bif Nat.beq s t then x else f.v s, ds := f.ds }
def Frm.ev (f : Frm) : Operand → Value
  | .tmp t => f.v t
  | .const v => v
  | .global g => .pointer (some ⟨g, 0, none⟩)
  | .func n => .func (.func n) #[] #[]
def Frm.putO (f : Frm) (d : Option Nat) (x : Value) : Frm := match d with | some t => f.put t x | none => f
def Frm.defer (f : Frm) (d : Deferred) : Frm := { v := f.v, ds := d :: f.ds }

theorem beqF {s t : Nat} (h : s ≠ t) : Nat.beq s t = false := by
  cases hb : Nat.beq s t with
  | false => rfl
  | true => exact absurd (Nat.eq_of_beq_eq_true hb) h

theorem Frm.put_same (f : Frm) (t : Nat) (x : Value) : (f.put t x).v t = x := by simp [Frm.put]
theorem Frm.put_ne (f : Frm) {t s : Nat} (x : Value) (h : s ≠ t) : (f.put t x).v s = f.v s := by
  have : Nat.beq s t = false := beqF h
  simp [Frm.put, this]

/-- The frame a of the machine is f, N slots. -/
structure Rep (N : Nat) (a : Act) (f : Frm) : Prop where
  size : a.tmps.size = N
  get : ∀ t, a.tmps.getD t undef = f.v t
  ds : a.defers = f.ds

theorem Rep.eval {N : Nat} {a : Act} {f : Frm} (r : Rep N a f) : a.eval = f.ev := funext fun x => by
  cases x with
  | tmp t => exact r.get t
  | const v => rfl
  | global g => rfl
  | func n => rfl

/-- A destination lies in the frame. -/
def dOk (N : Nat) (d : Option Nat) : Bool := match d with | some t => Nat.blt t N | none => true

theorem Rep.put {N : Nat} {a : Act} {f : Frm} (r : Rep N a f) {d : Option Nat} (hd : dOk N d = true) (x : Value) : Rep N (a.put d x) (f.putO d x) := by
  cases d with
  | none => exact r
  | some t =>
    have ht : t < N := by simpa [dOk, Nat.blt_eq] using hd
    refine ⟨by simp [Act.put, r.size], fun s => ?_, r.ds⟩
    have hr := r.get s
    by_cases h : s = t
    · subst h; simp [Act.put, Frm.putO, Frm.put, r.size, ht]
    · rw [show (f.putO (some t) x).v s = f.v s from Frm.put_ne f x h]
      simpa [Act.put, Array.getElem?_setIfInBounds_ne (Ne.symm h)] using hr

/-! ### Which slots code writes -/
def bit (m t : Nat) : Bool := Nat.beq (Nat.mod (Nat.shiftRight m t) 2) 1
def mO (d : Option Nat) : Nat := match d with | some t => Nat.shiftLeft 1 t | none => 0
def mOps : List Oper → Nat
  | [] => 0
  | o :: os => Nat.lor (mO o.dst) (mOps os)
def mTs : List Nat → Nat
  | [] => 0
  | t :: ts => Nat.lor (Nat.shiftLeft 1 t) (mTs ts)
def mC : Code → Nat
  | .region _ ops _ => mOps ops.toList
  | .seq a b => Nat.lor (mC a) (mC b)
  | .cond _ a b => Nat.lor (mC a) (mC b)
  | .block _ c => mC c
  | .loop c => mC c
  | .rangeFunc _ ps as c => Nat.lor (mTs ps.toList) (Nat.lor (mC as) (mC c))
  | .scope c => mC c
  | _ => 0
theorem bit_eq (m t : Nat) : bit m t = m.testBit t := by
  rw [Bool.eq_iff_iff, Nat.testBit_eq_decide_div_mod_eq]
  simp only [bit, decide_eq_true_eq, Nat.beq_eq]
  rw [← Nat.shiftRight_eq_div_pow]; rfl
theorem bit_or (m n t : Nat) : bit (Nat.lor m n) t = (bit m t || bit n t) := by
  simp only [bit_eq]; exact Nat.testBit_or m n t
theorem bit_mO (d t : Nat) : bit (mO (some d)) t = Nat.beq t d := by
  rw [Bool.eq_iff_iff]
  simp only [bit_eq, mO, Nat.beq_eq, show Nat.shiftLeft 1 d = 2 ^ d from by have := Nat.one_shiftLeft d; exact this, Nat.testBit_two_pow]
  simp [eq_comm]

/-- Outside m, f' has what f has. -/
def Kept (m : Nat) (f' f : Frm) : Prop := ∀ t, bit m t = false → f'.v t = f.v t
theorem Kept.refl (m : Nat) (f : Frm) : Kept m f f := fun _ _ => rfl
theorem Kept.putO {m : Nat} (f : Frm) (d : Option Nat) (x : Value) (h : ∀ t, bit m t = false → bit (mO d) t = false) : Kept m (f.putO d x) f := fun t ht => by
  cases d with
  | none => rfl
  | some s => have := h t ht; rw [bit_mO] at this; exact Frm.put_ne f x (by intro e; subst e; simp at this)
theorem Kept.trans {m : Nat} {a b c : Frm} (x : Kept m a b) (y : Kept m b c) : Kept m a c := fun t h => (x t h).trans (y t h)
theorem Kept.mono {m m' : Nat} {a b : Frm} (x : Kept m a b) (h : ∀ t, bit m' t = false → bit m t = false) : Kept m' a b := fun t ht => x t (h t ht)
theorem Kept.left {m n : Nat} {a b : Frm} (x : Kept m a b) : Kept (Nat.lor m n) a b := x.mono fun t h => by rw [bit_or] at h; simp at h; exact h.1
theorem Kept.right {m n : Nat} {a b : Frm} (x : Kept n a b) : Kept (Nat.lor m n) a b := x.mono fun t h => by rw [bit_or] at h; simp at h; exact h.2

/-! ### Code -/
abbrev Post := Exit → Frm → List HP → Prop
/-- What is owed to the machine: behind, a frame that fits, the items, and the frame's other part untouched. -/
def lift (N m : Nat) (Fr : List HP) (w0 : World) (f0 : Frm) (Q : Post) : Exit → Act → World → Prop := fun e a w =>
  ∃ f L, Rep N a f ∧ Q e f L ∧ Has (L ++ Fr) (heapOf w) ∧ Keep w0 w ∧ Kept m f f0
def W (P : Program) (N : Nat) (ro : Option Nat) (c : Code) (Q : Post) (f : Frm) (L : List HP) : Prop :=
  ∀ Fr w a, Rep N a f → Has (L ++ Fr) (heapOf w) → c.wpIn (FW ro) 0 P (lift N (mC c) Fr w f Q) a w

def thn (K : Frm → List HP → Prop) (Q : Post) : Post
  | .normal, f, L => K f L
  | e, f, L => Q e f L
def inB (id : Nat) (Q : Post) : Post
  | .exit i, f, L => bif Nat.beq i id then Q .normal f L else Q (.exit i) f L
  | e, f, L => Q e f L

section
variable {P : Program} {N : Nat} {ro : Option Nat} {Q : Post} {f : Frm} {L : List HP}

theorem W.mono {c : Code} {Q' : Post} (h : W P N ro c Q f L) (k : ∀ e f L, Q e f L → Q' e f L) : W P N ro c Q' f L :=
  fun Fr w a r x => wpIn_mono (h Fr w a r x) fun _ _ _ ⟨f', L', r', q, y, kp, kt⟩ => ⟨f', L', r', k _ _ _ q, y, kp, kt⟩
theorem W.has {c : Code} {M : List HP} (p : ∀ Fr h, Has (L ++ Fr) h → Has (M ++ Fr) h) (h : W P N ro c Q f M) : W P N ro c Q f L :=
  fun Fr w a r x => h Fr w a r (p Fr _ x)
theorem W.skip (h : Q .normal f L) : W P N ro .skip Q f L := fun Fr w a r x => wpIn_skip ⟨f, L, r, h, x, Keep.refl _, Kept.refl _ _⟩
theorem W.label {l : Nat} (h : Q .normal f L) : W P N ro (.label l) Q f L := fun Fr w a r x => wpIn_label ⟨f, L, r, h, x, Keep.refl _, Kept.refl _ _⟩
theorem W.exit {id : Nat} (h : Q (.exit id) f L) : W P N ro (.exit id) Q f L := fun Fr w a r x => wpIn_exit ⟨f, L, r, h, x, Keep.refl _, Kept.refl _ _⟩
theorem W.goto {id : Nat} (h : Q (.goto id) f L) : W P N ro (.goto id) Q f L := fun Fr w a r x => wpIn_goto ⟨f, L, r, h, x, Keep.refl _, Kept.refl _ _⟩
theorem W.ret (h : Q .ret f L) : W P N ro .ret Q f L := fun Fr w a r x => wpIn_ret ⟨f, L, r, h, x, Keep.refl _, Kept.refl _ _⟩
theorem W.seq {x y : Code} (h : W P N ro x (thn (fun f' L' => W P N ro y Q f' L') Q) f L) : W P N ro (.seq x y) Q f L := by
  intro Fr w a r z
  refine wpIn_seq (wpIn_mono (h Fr w a r z) ?_)
  rintro e a' w' ⟨f', L', r', q, y', kp, kt⟩
  cases e with
  | normal =>
    refine wpIn_mono (q Fr w' a' r' y') ?_
    rintro e a'' w'' ⟨f'', L'', r'', q', y'', kp', kt'⟩
    exact ⟨f'', L'', r'', q', y'', kp.trans kp', (Kept.right kt').trans kt.left⟩
  | exit id => exact ⟨f', L', r', q, y', kp, kt.left⟩
  | goto l => exact ⟨f', L', r', q, y', kp, kt.left⟩
  | ret => exact ⟨f', L', r', q, y', kp, kt.left⟩
  | panic c => exact ⟨f', L', r', q, y', kp, kt.left⟩
  | outgrown => exact ⟨f', L', r', q, y', kp, kt.left⟩
theorem W.cond {c : Operand} {x y : Code} {t : Bool} (hc : f.ev c = .bool t) (h1 : t = true → W P N ro x Q f L) (h2 : t = false → W P N ro y Q f L) : W P N ro (.cond c x y) Q f L := by
  intro Fr w a r z
  refine wpIn_cond_split (t := t) (by rw [r.eval]; exact hc) (fun e => wpIn_mono (h1 e Fr w a r z) ?_) (fun e => wpIn_mono (h2 e Fr w a r z) ?_)
  · rintro e a' w' ⟨f', L', r', q, y', kp, kt⟩; exact ⟨f', L', r', q, y', kp, kt.left⟩
  · rintro e a' w' ⟨f', L', r', q, y', kp, kt⟩; exact ⟨f', L', r', q, y', kp, kt.right⟩
/-- A test of a proposition. -/
theorem W.if {c : Operand} {x y : Code} {p : Prop} [Decidable p] (hc : f.ev c = .bool (decide p)) (h1 : p → W P N ro x Q f L) (h2 : ¬p → W P N ro y Q f L) : W P N ro (.cond c x y) Q f L :=
  W.cond hc (fun e => h1 (of_decide_eq_true e)) (fun e => h2 (of_decide_eq_false e))
theorem W.ifnot {c : Operand} {x y : Code} {p : Prop} [Decidable p] (hc : f.ev c = .bool (!decide p)) (h1 : ¬p → W P N ro x Q f L) (h2 : p → W P N ro y Q f L) : W P N ro (.cond c x y) Q f L :=
  W.cond hc (fun e => h1 (by simpa using e)) (fun e => h2 (by simpa using e))
theorem W.iftrue {c : Operand} {x y : Code} (hc : f.ev c = .bool true) (h1 : W P N ro x Q f L) : W P N ro (.cond c x y) Q f L := W.cond hc (fun _ => h1) (fun e => by cases e)
theorem W.iffalse {c : Operand} {x y : Code} (hc : f.ev c = .bool false) (h1 : W P N ro y Q f L) : W P N ro (.cond c x y) Q f L := W.cond hc (fun e => by cases e) (fun _ => h1)
theorem W.block {id : Nat} {c : Code} (h : W P N ro c (inB id Q) f L) : W P N ro (.block id c) Q f L := by
  intro Fr w a r z
  refine wpIn_block (wpIn_mono (h Fr w a r z) ?_)
  rintro e a' w' ⟨f', L', r', q, y', kp, kt⟩
  cases e with
  | exit i =>
    simp only [Exit.inBlock]
    by_cases hi : i = id
    · subst hi; rw [if_pos rfl]; exact ⟨f', L', r', by simpa [inB] using q, y', kp, kt⟩
    · have hb : Nat.beq i id = false := beqF hi
      rw [if_neg hi]; exact ⟨f', L', r', by simpa [inB, hb] using q, y', kp, kt⟩
  | _ => exact ⟨f', L', r', q, y', kp, kt⟩

/-- A loop: J s of the frame and the items at each round's head; the measure of s goes down. Slots that the body does not write are as they were. -/
theorem W.loop {c : Code} {σ : Type} (J : σ → Frm → List HP → Prop) (μ : σ → Nat) (s0 : σ) (h0 : J s0 f L)
    (round : ∀ s f' L', J s f' L' → Kept (mC c) f' f → W P N ro c (thn (fun f'' L'' => ∃ s', J s' f'' L'' ∧ μ s' < μ s) Q) f' L') : W P N ro (.loop c) Q f L := by
  intro Fr w a r z b k cs hro hb hroom
  have key : ∀ (j : Nat) (s : σ) (f' : Frm) (L' : List HP) (w' : World) (a' : Act), μ s = j → J s f' L' → Kept (mC c) f' f → Rep N a' f' → Has (L' ++ Fr) (heapOf w') → Keep w w' →
      ∃ e a'' w'', lift N (mC c) Fr w f Q e a'' w'' ∧ ArrivesIn (Machine.fenced P (FW ro)) P (lone (b.atR a' (.code c :: .inLoop c :: k)) cs w') b k cs e a'' w'' := by
    intro j
    induction j using Nat.strongRecOn with
    | _ j ih =>
      intro s f' L' w' a' hj hJ hk hr hh hkp
      obtain ⟨e, a1, w1, ⟨f1, L1, r1, q, y1, kp, kt⟩, harr⟩ := round s f' L' hJ hk Fr w' a' hr hh b (.inLoop c :: k) cs hro hb hroom
      cases e with
      | normal =>
        obtain ⟨s', hJ', hlt⟩ := q
        obtain ⟨e2, a2, w2, hq2, harr2⟩ := ih (μ s') (hj ▸ hlt) s' f1 L1 w1 a1 rfl hJ' (kt.trans hk) r1 y1 (hkp.trans kp)
        exact ⟨e2, a2, w2, hq2, .of_steps (StepsIn.trans harr (.one (fenced_calm hb hroom rfl) stepR_inLoop)) harr2⟩
      | exit id => exact ⟨_, a1, w1, ⟨f1, L1, r1, q, y1, hkp.trans kp, kt.trans hk⟩, .pass (x := .inLoop c) rfl (fun _ _ => .inl (by simp)) harr⟩
      | goto l => exact ⟨_, a1, w1, ⟨f1, L1, r1, q, y1, hkp.trans kp, kt.trans hk⟩, .pass (x := .inLoop c) rfl (fun _ _ => .inl (by simp)) harr⟩
      | ret => exact ⟨_, a1, w1, ⟨f1, L1, r1, q, y1, hkp.trans kp, kt.trans hk⟩, .pass (x := .inLoop c) rfl (fun _ _ => .inl (by simp)) harr⟩
      | panic ch => exact ⟨_, a1, w1, ⟨f1, L1, r1, q, y1, hkp.trans kp, kt.trans hk⟩, .pass (x := .inLoop c) rfl (fun _ _ => .inl (by simp)) harr⟩
      | outgrown => exact ⟨_, a1, w1, ⟨f1, L1, r1, q, y1, hkp.trans kp, kt.trans hk⟩, .pass (x := .inLoop c) rfl (fun _ _ => .inl (by simp)) harr⟩
  obtain ⟨e, a', w', hq, harr⟩ := key _ s0 f L w a rfl h0 (Kept.refl _ _) r z (Keep.refl _)
  exact ⟨e, a', w', hq, .of_steps (.one (fenced_calm hb hroom rfl) stepR_loop) harr⟩

/-- A frame of which some slots are told, those of m are anything, the others as in f. -/
def over (f : Frm) (m : Nat) (bg : Nat → Value) (sl : List (Nat × Value)) : Frm := { v := fun t => go t sl, ds := f.ds }
where
  go (t : Nat) : List (Nat × Value) → Value
    | [] => bif bit m t then bg t else f.v t
    | p :: l => bif Nat.beq t p.1 then p.2 else go t l
def Told (f : Frm) : List (Nat × Value) → Prop
  | [] => True
  | (t, v) :: l => f.v t = v ∧ Told f l
theorem over_eq {f f' : Frm} {m : Nat} (k : Kept m f' f) (hd : f'.ds = f.ds) : ∀ {sl : List (Nat × Value)}, Told f' sl → over f m f'.v sl = f' := by
  intro sl ht
  have : ∀ (l : List (Nat × Value)), Told f' l → ∀ t, over.go f m f'.v t l = f'.v t := by
    intro l
    induction l with
    | nil =>
      intro _ t
      cases hb : bit m t with
      | true => simp [over.go, hb]
      | false => simp [over.go, hb]; exact (k t hb).symm
    | cons p l ih =>
      rintro ⟨h1, h2⟩ t
      cases hb : Nat.beq t p.1 with
      | true => simp only [over.go, hb, cond_true]; rw [Nat.eq_of_beq_eq_true hb]; exact h1.symm
      | false => simp only [over.go, hb, cond_false]; exact ih h2 t
  cases f' with
  | mk v ds =>
    simp only at hd; subst hd
    simp only [over]; congr 1; funext t; exact this sl ht t
/-- The same loop, its state told by a list of slots, the items and what holds. -/
theorem W.loopS {c : Code} {σ : Type} (m : Nat) (hm : mC c = m) (sl : σ → List (Nat × Value)) (H : σ → List HP) (φ : σ → Prop) (μ : σ → Nat) (s0 : σ)
    (h1 : Told f (sl s0)) (h2 : φ s0) (h3 : ∀ Fr h, Has (L ++ Fr) h → Has (H s0 ++ Fr) h)
    (round : ∀ s bg, φ s → W P N ro c (thn (fun f' L' => ∃ s', Told f' (sl s') ∧ f'.ds = f.ds ∧ φ s' ∧ μ s' < μ s ∧ ∀ Fr h, Has (L' ++ Fr) h → Has (H s' ++ Fr) h) Q) (over f m bg (sl s)) (H s)) :
    W P N ro (.loop c) Q f L := by
  subst hm
  refine W.loop (fun s f' L' => Told f' (sl s) ∧ f'.ds = f.ds ∧ φ s ∧ ∀ Fr h, Has (L' ++ Fr) h → Has (H s ++ Fr) h) μ s0 ⟨h1, rfl, h2, h3⟩ ?_
  rintro s f' L' ⟨ht, hd, hs, hh⟩ hk
  have h := round s f'.v hs
  rw [over_eq hk hd ht] at h
  refine W.has hh (W.mono h ?_)
  rintro e f'' L'' q
  cases e with
  | normal => obtain ⟨s', a, b, c', d, e⟩ := q; exact ⟨s', ⟨a, b, c', e⟩, d⟩
  | _ => exact q
end
end Go.SL
