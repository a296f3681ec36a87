/- SL 6: slices that the call owns, append, copy, cuts, strings and bytes. Generic in the program. -/
import Derived.Test.YtcjpiceklicmoaaGreatDoorSl5
namespace Go.SL
set_option linter.unusedVariables false
set_option linter.unusedSimpArgs false

/-! ### Taking an item out -/
def Tk (L : List HP) (A : HP) (R : List HP) : Prop := ∀ h, Has L h → Has (A :: R) h
theorem Tk.here {A : HP} {R : List HP} : Tk (A :: R) A R := fun _ x => x
theorem Tk.there {A B : HP} {L R : List HP} (t : Tk L A R) : Tk (B :: L) A (B :: R) := fun h x => (Has.cons_of t x).swap
theorem Tk.app {A : HP} {L R : List HP} (t : Tk L A R) (Fr : List HP) : ∀ h, Has (L ++ Fr) h → Has (A :: R ++ Fr) h := fun h x => by
  obtain ⟨h1, h2, d, a, b, c, e⟩ := has_append.1 x
  exact (has_append (L := A :: R)).2 ⟨h1, h2, d, a, b, t _ c, e⟩

/-- What M has, L has: with whatever else there is. -/
def Ent (L M : List HP) : Prop := ∀ h, Has L h → Has M h
theorem Ent.refl (L : List HP) : Ent L L := fun _ x => x
theorem Ent.trans {A B C : List HP} (x : Ent A B) (y : Ent B C) : Ent A C := fun h z => y h (x h z)
theorem Ent.app {L M : List HP} (t : Ent L M) (Fr : List HP) : ∀ h, Has (L ++ Fr) h → Has (M ++ Fr) h := fun h x => by
  obtain ⟨h1, h2, d, a, b, c, e⟩ := has_append.1 x
  exact has_append.2 ⟨h1, h2, d, a, b, t _ c, e⟩
theorem Ent.nil (L : List HP) : Ent L [] := fun _ _ => trivial
theorem Ent.take {L R : List HP} {A : HP} {M : List HP} (t : Tk L A R) (e : Ent R M) : Ent L (A :: M) := fun h x => Has.cons_of e (t h x)
theorem Ent.pure {L M : List HP} {p : Prop} (hp : p) (e : Ent L M) : Ent L (hpure p :: M) := fun h x => has_pure.2 ⟨hp, e h x⟩
theorem Ent.ex {L M : List HP} {α : Type} {G : α → HP} (a : α) (e : Ent L (G a :: M)) : Ent L (hex G :: M) := fun h x => has_hex.2 ⟨a, e h x⟩
theorem Ent.conj {L M N : List HP} (e : Ent L (N ++ M)) : Ent L (conj N :: M) := fun h x => has_conj.2 (e h x)

section
variable {P : Program} {N : Nat} {ro : Option Nat} {Q : Post} {f : Frm} {L : List HP} {c : Code}
theorem W.ent {M : List HP} (e : Ent L M) (h : W P N ro c Q f M) : W P N ro c Q f L := W.has (fun Fr => e.app Fr) h
theorem WO.ent {M : List HP} {all : Array Oper} {todo : List Oper} (e : Ent L M) (h : WO P N ro all todo Q f M) : WO P N ro all todo Q f L := WO.has (fun Fr => e.app Fr) h
theorem SW.ent {α : Type} {s : Sem α} {K : α → List HP → Prop} {M : List HP} (e : Ent L M) (h : SW P s K M) : SW P s K L := SW.has (fun Fr => e.app Fr) h
theorem Tri.ent {g : FuncId} {args : Array Value} {K : Value → List HP → Prop} {M : List HP} (e : Ent L M) (h : Tri P g args K M) : Tri P g args K L := Tri.has (fun Fr => e.app Fr) h
/-- A fact that an item bears. -/
theorem SW.pureI {α : Type} {s : Sem α} {K : α → List HP → Prop} {p : Prop} (h : p → SW P s K L) : SW P s K (hpure p :: L) := fun Fr w x => by
  have := has_pure.1 x; exact h this.1 Fr w this.2
theorem SW.exI {α β : Type} {s : Sem α} {K : α → List HP → Prop} {G : β → HP} (h : ∀ x, SW P s K (G x :: L)) : SW P s K (hex G :: L) := fun Fr w x => by
  obtain ⟨y, z⟩ := has_hex.1 x; exact h y Fr w z
theorem SW.conjI {α : Type} {s : Sem α} {K : α → List HP → Prop} {M : List HP} (h : SW P s K (M ++ L)) : SW P s K (conj M :: L) := fun Fr w x => by
  have := has_conj.1 x; exact h Fr w (by rw [List.append_assoc]; exact this)
theorem W.pureI {p : Prop} (h : p → W P N ro c Q f L) : W P N ro c Q f (hpure p :: L) := fun Fr w a r x => by
  have := has_pure.1 x; exact h this.1 Fr w a r this.2
theorem W.exI {β : Type} {G : β → HP} (h : ∀ x, W P N ro c Q f (G x :: L)) : W P N ro c Q f (hex G :: L) := fun Fr w a r x => by
  obtain ⟨y, z⟩ := has_hex.1 x; exact h y Fr w a r z
theorem W.conjI {M : List HP} (h : W P N ro c Q f (M ++ L)) : W P N ro c Q f (conj M :: L) := fun Fr w a r x => by
  have := has_conj.1 x; exact h Fr w a r (by rw [List.append_assoc]; exact this)
theorem WO.pureI {p : Prop} {all : Array Oper} {todo : List Oper} (h : p → WO P N ro all todo Q f L) : WO P N ro all todo Q f (hpure p :: L) := fun Fr w a r x => by
  have := has_pure.1 x; exact h this.1 Fr w a r this.2
theorem WO.exI {β : Type} {G : β → HP} {all : Array Oper} {todo : List Oper} (h : ∀ x, WO P N ro all todo Q f (G x :: L)) : WO P N ro all todo Q f (hex G :: L) := fun Fr w a r x => by
  obtain ⟨y, z⟩ := has_hex.1 x; exact h y Fr w a r z
theorem WO.conjI {M : List HP} {all : Array Oper} {todo : List Oper} (h : WO P N ro all todo Q f (M ++ L)) : WO P N ro all todo Q f (conj M :: L) := fun Fr w a r x => by
  have := has_conj.1 x; exact h Fr w a r (by rw [List.append_assoc]; exact this)
theorem Tri.pureI {g : FuncId} {args : Array Value} {K : Value → List HP → Prop} {p : Prop} (h : p → Tri P g args K L) : Tri P g args K (hpure p :: L) := fun Fr w x => by
  have := has_pure.1 x; exact h this.1 Fr w this.2
theorem Tri.exI {β : Type} {G : β → HP} {g : FuncId} {args : Array Value} {K : Value → List HP → Prop} (h : ∀ x, Tri P g args K (G x :: L)) : Tri P g args K (hex G :: L) := fun Fr w x => by
  obtain ⟨y, z⟩ := has_hex.1 x; exact h y Fr w z
theorem Tri.conjI {M : List HP} {g : FuncId} {args : Array Value} {K : Value → List HP → Prop} (h : Tri P g args K (M ++ L)) : Tri P g args K (conj M :: L) := fun Fr w x => by
  have := has_conj.1 x; exact h Fr w (by rw [List.append_assoc]; exact this)
end

/-! ### A slice of the call's own -/
/-- v is nil, or leads to the head of a row of its own: n elements of sz cells each, the cells xs, and spare room. -/
def OwnB (E sz : Nat) (v : Value) (n : Nat) (xs : List Value) (b cap : Nat) (sp : List Value) (fr : Nat × Nat) : Prop :=
  v = .slice (some ⟨b, 0, none⟩) n cap ∧ n ≤ cap ∧ xs.length = n * sz ∧ sp.length = (cap - n) * sz ∧ (fr.2 ≤ fr.1 ∨ cap * sz ≤ fr.1)
def Own (E sz : Nat) (v : Value) (n : Nat) (xs : List Value) : HP := fun h =>
  (v = .slice none 0 0 ∧ n = 0 ∧ xs = []) ∨ ∃ b cap sp fr, OwnB E sz v n xs b cap sp fr ∧ h b = some (.cells (xs ++ sp).toArray E fr)

def u8V (c : UInt8) : Value := .int .u8 c.toNat
def i64V (n : Int) : Value := .int .i64 n
def strV (s : List UInt8) : Value := .string ⟨s.toArray⟩

theorem cellsAt_list (xs ys zs : List Value) : cellsAt (xs ++ (ys ++ zs)).toArray xs.length ys.length = ys := by
  induction ys generalizing xs with
  | nil => rfl
  | cons y ys ih =>
    simp only [List.length_cons, cellsAt]
    have h1 : (xs ++ (y :: ys ++ zs)).toArray[xs.length]?.getD undef = y := by simp
    rw [h1]
    have h2 := ih (xs ++ [y])
    simp only [List.length_append, List.length_singleton, List.append_assoc, List.cons_append, List.nil_append] at h2
    simp only [List.cons_append]
    rw [h2]
theorem cellsAt_zero (ys zs : List Value) : cellsAt (ys ++ zs).toArray 0 ys.length = ys := cellsAt_list [] ys zs
theorem cellsAt_length (cs : Array Value) (off n : Nat) : (cellsAt cs off n).length = n := by
  induction n generalizing off with
  | zero => rfl
  | succ n ih => simp [cellsAt, ih]
theorem cellsAt_get (cs : Array Value) (off n i : Nat) (h : i < n) : (cellsAt cs off n)[i]? = some (cs[off + i]?.getD undef) := by
  induction n generalizing off i with
  | zero => omega
  | succ n ih =>
    cases i with
    | zero => simp [cellsAt]
    | succ i => simp only [cellsAt, List.getElem?_cons_succ]; rw [ih _ _ (by omega), show off + 1 + i = off + (i + 1) from by omega]
theorem putAt_list (xs ys zs : List Value) (vs : List Value) (h : vs.length = ys.length) : putAt (xs ++ (ys ++ zs)).toArray xs.length vs = (xs ++ (vs ++ zs)).toArray := by
  induction vs generalizing xs ys with
  | nil => have : ys = [] := List.eq_nil_of_length_eq_zero h.symm; subst this; rfl
  | cons v vs ih =>
    cases ys with
    | nil => simp at h
    | cons y ys =>
      simp only [putAt]
      have e : (xs ++ (y :: ys ++ zs)).toArray.setIfInBounds xs.length v = ((xs ++ [v]) ++ (ys ++ zs)).toArray := by
        simp [List.set_append_right]
      rw [e]
      have h2 := ih (xs ++ [v]) ys (by simpa using h)
      simp only [List.length_append, List.length_singleton] at h2
      rw [h2]; simp

/-- What is read of x: m elements, the cells ys. -/
def Src (P : Program) (sz : Nat) (x : Value) (m : Nat) (ys : List Value) (L : List HP) : Prop :=
  (∀ w, (Builtin.lenOf x).run P w = .ok m w) ∧ ∀ Fr w, Has (L ++ Fr) (heapOf w) → (Builtin.firstCells sz m x).run P w = .ok ys.toArray w

theorem run_loadCellsFrom {P : Program} {w : World} {b off : Nat} {cs : Array Value} {T : TypeId} {fr : Nat × Nat} (e : heapOf w b = some (.cells cs T fr)) : ∀ (n i : Nat) (acc : Array Value), off + i + n ≤ cs.size →
    (loadCellsFrom ⟨b, off, none⟩ i n acc).run P w = .ok (acc ++ (cellsAt cs (off + i) n).toArray) w
  | 0, i, acc, _ => by simp [loadCellsFrom, cellsAt]
  | n + 1, i, acc, h => by
    have hlt : off + i < cs.size := by omega
    have ih := run_loadCellsFrom (P := P) (off := off) e n (i + 1) (acc.push cs[off + i]) (by omega)
    simp only [loadCellsFrom, Sem.run_bind, add_none, run_load, cell_of e, Array.getElem?_eq_getElem hlt, Result.andThen_ok]
    rw [ih]
    congr 1
    apply Array.toList_inj.1
    rw [cellsAt, Array.getElem?_eq_getElem hlt]
    simp [Nat.add_assoc]
theorem run_loadCells {P : Program} {w : World} {b off n : Nat} {cs : Array Value} {T : TypeId} {fr : Nat × Nat} (e : heapOf w b = some (.cells cs T fr)) (hn : off + n ≤ cs.size) : (loadCells ⟨b, off, none⟩ n).run P w = .ok (cellsAt cs off n).toArray w := by
  have := run_loadCellsFrom (P := P) e n 0 #[] (by simpa using hn)
  simpa [loadCells] using this

theorem Src.nil {P : Program} {sz : Nat} {L : List HP} : Src P sz (.slice none 0 0) 0 [] L := ⟨fun _ => rfl, fun _ _ _ => rfl⟩
theorem Src.row {P : Program} {sz : Nat} {L : List HP} {b off m cap : Nat} {cs : Array Value} {T : TypeId} {fr : Nat × Nat} [r : Rd L b (.cells cs T fr)] (h : off + m * sz ≤ cs.size) : Src P sz (.slice (some ⟨b, off, none⟩) m cap) m (cellsAt cs off (m * sz)) L :=
  ⟨fun _ => rfl, fun Fr w x => run_loadCells (r.append x) h⟩
theorem Src.str {P : Program} {L : List HP} {s : List UInt8} : Src P 1 (.string ⟨s.toArray⟩) s.length (s.map u8V) L := by
  refine ⟨fun _ => rfl, fun _ w _ => ?_⟩
  have e : ((⟨s.toArray⟩ : ByteArray).extract 0 s.length) = ⟨s.toArray⟩ := by
    apply ByteArray.ext
    simp [ByteArray.data_extract]
  simp only [Builtin.firstCells, e, Sem.run_pure]
  congr 1
  apply Array.toList_inj.1
  simp [u8V]
theorem has_own {E sz n : Nat} {v : Value} {xs : List Value} {L : List HP} {h : PH} (x : Has (Own E sz v n xs :: L) h) : (v = .slice none 0 0 ∧ n = 0 ∧ xs = []) ∨ ∃ b cap sp fr, OwnB E sz v n xs b cap sp fr ∧ Has (pts b (.cells (xs ++ sp).toArray E fr) :: L) h := by
  obtain ⟨h1, h2, d, a, b', c, e⟩ := x
  rcases c with c | ⟨b, cap, sp, fr, c1, c2⟩
  · exact .inl c
  · exact .inr ⟨b, cap, sp, fr, c1, h1, h2, d, a, b', c2, e⟩
theorem own_of {E sz n : Nat} {v : Value} {xs : List Value} {L : List HP} {h : PH} {b cap : Nat} {sp : List Value} {fr : Nat × Nat} (o : OwnB E sz v n xs b cap sp fr) (x : Has (pts b (.cells (xs ++ sp).toArray E fr) :: L) h) : Has (Own E sz v n xs :: L) h := by
  obtain ⟨h1, h2, d, a, b', c, e⟩ := x
  exact ⟨h1, h2, d, a, b', .inr ⟨b, cap, sp, fr, o, c⟩, e⟩
theorem own_nil {E sz : Nat} {L : List HP} {h : PH} (x : Has L h) : Has (Own E sz (.slice none 0 0) 0 [] :: L) h :=
  ⟨fun _ => none, h, fun _ => .inl rfl, fun _ _ e => (by cases e), Sub.refl _, .inl ⟨rfl, rfl, rfl⟩, x⟩
theorem Src.own {P : Program} {E sz n : Nat} {v : Value} {xs : List Value} {L R : List HP} (hlen : xs.length = n * sz) (hv : ∃ a c, v = .slice a n c) (t : Tk L (Own E sz v n xs) R) : Src P sz v n xs L := by
  obtain ⟨a, c, rfl⟩ := hv
  refine ⟨fun _ => rfl, fun Fr w x => ?_⟩
  rcases has_own (t.app Fr _ x) with ⟨h1, h2, h3⟩ | ⟨b, cap, sp, fr, o, y⟩
  · injection h1 with h4 h5 h6; subst h4; subst h2; subst h3; rfl
  · obtain ⟨h1, h2, h3, h4, h5⟩ := o
    injection h1 with h6 h7 h8; subst h6; subst h8
    have hr := run_loadCells (P := P) (off := 0) (n := n * sz) (has_pts y) (by simp; omega)
    simp only [Builtin.firstCells]
    rw [hr, ← h3, cellsAt_zero]

/-! ### append -/
theorem SW.runs {α : Type} {P : Program} {L : List HP} {s : Sem α} {a : α} {K : α → List HP → Prop} (e : ∀ Fr w, Has (L ++ Fr) (heapOf w) → s.run P w = .ok a w) (h : K a L) : SW P s K L :=
  fun Fr w x => ⟨a, w, L, e Fr w x, h, x, Keep.refl _⟩
theorem nextcap (need cap : Nat) (h : cap < need) : Builtin.nextslicecap need cap ≤ 2 * need + 192 := by
  have g : ∀ (r c : Nat), c < need → Builtin.growBy need r c ≤ 2 * need + 192 := by
    intro r
    induction r with
    | zero => intro c hc; simp only [Builtin.growBy]; omega
    | succ r ih =>
      intro c hc
      simp only [Builtin.growBy]
      split
      · omega
      · by_cases h2 : c + (c + 768) / 4 < need
        · exact ih _ h2
        · cases r with
          | zero => simp only [Builtin.growBy]; omega
          | succ r => simp only [Builtin.growBy]; rw [if_pos (by omega)]; omega
  unfold Builtin.nextslicecap
  split
  · omega
  · split
    · omega
    · exact g 4 cap h

/-- What is appended is a slice, or a string. -/
def apTy (P : Program) (t : Nat) : Bool := match P.underlying t with | some (.slice _) => true | some .string => true | _ => false
theorem apTy_or {P : Program} {t : Nat} (h : apTy P t = true) : (∃ e, P.underlying t = some (.slice e)) ∨ P.underlying t = some .string := by
  unfold apTy at h
  split at h
  · rename_i e h1; exact .inl ⟨e, h1⟩
  · rename_i h1; exact .inr h1
  · cases h
theorem zeroCells_size (z : Array Value) (n : Nat) : (Builtin.zeroCells z n).size = n * z.size := by simp [Builtin.zeroCells]

section
variable {P : Program} {tS tX E sz by_ : Nat} {tsz : Array TypeId} {ty : TypeId} {z x : Value} {base : Option Addr} {cap n m : Nat} {xs ys : List Value} {L : List HP} {K : Value → List HP → Prop}
/-- An append, told by what is read, where it must grow. -/
theorem SW.appendGrow (h0 : tsz[0]? = some tS) (h1 : tsz[1]? = some tX) (he : elemOf P tS = some (E, sz)) (hb : tyBytes P E = some by_) (hz : tyZero P E = some z) (hzs : z.cells.size = sz) (hx : apTy P tX = true)
    (old : ∀ Fr w, Has (L ++ Fr) (heapOf w) → (Builtin.firstCells sz n (.slice base n cap)).run P w = .ok xs.toArray w) (src : Src P sz x m ys L) (hbig : (2 * (n + m) + 192) * by_ ≤ 2 ^ 48) (hgrow : cap < n + m)
    (h2 : by_ ≠ 0 ∨ n + m ≤ 2 ^ 62)
    (h : ∀ b c sp, n + m ≤ c → sp.length = (c - (n + m)) * sz → K (.slice (some ⟨b, 0, none⟩) (n + m) c) (pts b (.cells ((xs ++ ys) ++ sp).toArray E) :: L)) : SW P (Builtin.append_ tsz ty #[.slice base n cap, x]) K L := by
  obtain ⟨hs, hn⟩ := elemOf_some he
  obtain ⟨i, hi, hib⟩ : ∃ i, P.info? E = some i ∧ i.bytes = by_ := by
    unfold tyBytes at hb
    cases hi : P.info? E with
    | none => simp [hi] at hb
    | some i => simp [hi] at hb; exact ⟨i, rfl, hb⟩
  have hnc := nextcap (n + m) cap hgrow
  have hnb : Builtin.nextslicecap (n + m) cap * by_ ≤ 2 ^ 48 := Nat.le_trans (Nat.mul_le_mul_right _ hnc) hbig
  unfold Builtin.append_
  simp only [h0, h1, show (#[Value.slice base n cap, x] : Array Value)[0]? = some (.slice base n cap) from rfl, show (#[Value.slice base n cap, x] : Array Value)[1]? = some x from rfl]
  refine SW.bind (SW.underlying hs ?_)
  refine SW.bind (SW.sizeOf hn ?_)
  have hmax : ¬ (((n + m : Nat) : Int) > IntKind.i64.max ∧ (False ∨ i.bytes = 0)) := by
    rintro ⟨g1, g2⟩
    have g3 : i.bytes = 0 := g2.resolve_left id
    have g4 : IntKind.i64.max = 9223372036854775807 := by decide
    rcases h2 with g | g
    · exact g (hib ▸ g3)
    · rw [g4] at g1; omega
  rcases apTy_or hx with ⟨e', hX⟩ | hX
  · refine SW.bind (SW.underlying hX (SW.bind (SW.pure ?_)))
    simp only [Bool.false_eq_true, if_false, Bool.not_false, if_true]
    refine SW.bind (SW.runs (fun _ w _ => src.1 w) ?_)
    rw [if_neg (by omega)]
    refine SW.bind (SW.typeInfo hi ?_)
    rw [if_neg hmax]
    refine SW.bind (SW.typeInfo hi ?_)
    rw [if_neg (by rw [hib]; omega)]
    refine SW.bind (SW.choose fun tt => ?_)
    generalize hC : (if (Question.appendCap (n + m) cap E).forced = true then 0 else (Question.appendCap (n + m) cap E).cut tt) = C
    have hC2 : n + m ≤ C := by rw [← hC]; simp [Question.forced, Question.cut]
    refine SW.bind (SW.typeInfo hi (SW.bind (SW.askRoom ?_)))
    refine SW.bind (SW.runs old ?_)
    refine SW.bind (SW.runs src.2 ?_)
    refine SW.bind (SW.zeroValue hz ?_)
    refine SW.bind (SW.bind (SW.new fun b => SW.pure (SW.pure ?_)))
    have := h b C (Builtin.zeroCells z.cells (C - (n + m))).toList hC2 (by rw [Array.length_toList, zeroCells_size, hzs])
    have e : xs.toArray ++ ys.toArray ++ Builtin.zeroCells z.cells (C - (n + m)) = ((xs ++ ys) ++ (Builtin.zeroCells z.cells (C - (n + m))).toList).toArray := by
      apply Array.toList_inj.1; simp
    rw [e]; exact this
  · refine SW.bind (SW.underlying hX (SW.bind (SW.pure ?_)))
    simp only [Bool.false_eq_true, if_false, Bool.not_false, if_true]
    refine SW.bind (SW.runs (fun _ w _ => src.1 w) ?_)
    rw [if_neg (by omega)]
    refine SW.bind (SW.typeInfo hi ?_)
    rw [if_neg hmax]
    refine SW.bind (SW.typeInfo hi ?_)
    rw [if_neg (by rw [hib]; omega)]
    refine SW.bind (SW.choose fun tt => ?_)
    generalize hC : (if (Question.appendCap (n + m) cap E).forced = true then 0 else (Question.appendCap (n + m) cap E).cut tt) = C
    have hC2 : n + m ≤ C := by rw [← hC]; simp [Question.forced, Question.cut]
    refine SW.bind (SW.typeInfo hi (SW.bind (SW.askRoom ?_)))
    refine SW.bind (SW.runs old ?_)
    refine SW.bind (SW.runs src.2 ?_)
    refine SW.bind (SW.zeroValue hz ?_)
    refine SW.bind (SW.bind (SW.new fun b => SW.pure (SW.pure ?_)))
    have := h b C (Builtin.zeroCells z.cells (C - (n + m))).toList hC2 (by rw [Array.length_toList, zeroCells_size, hzs])
    have e : xs.toArray ++ ys.toArray ++ Builtin.zeroCells z.cells (C - (n + m)) = ((xs ++ ys) ++ (Builtin.zeroCells z.cells (C - (n + m))).toList).toArray := by
      apply Array.toList_inj.1; simp
    rw [e]; exact this

/-- An append within the capacity. -/
theorem SW.appendFit {b : Nat} {sp : List Value} {fr : Nat × Nat} {M : Obj → List HP} (h0 : tsz[0]? = some tS) (h1 : tsz[1]? = some tX) (he : elemOf P tS = some (E, sz)) (hx : apTy P tX = true)
    (src : Src P sz x m ys L) (hfit : n + m ≤ cap) (hxs : xs.length = n * sz) (hys : ys.length = m * sz) (hsp : sp.length = (cap - n) * sz) (hc : ys.all isCell = true) (hf : fr.2 ≤ fr.1 ∨ cap * sz ≤ fr.1)
    (r : Wr L b (.cells (xs ++ sp).toArray E fr) M) (rm : WrM M b)
    (hk : ys ≠ [] → K (.slice (some ⟨b, 0, none⟩) (n + m) cap) (M (.cells (xs ++ (ys ++ sp.drop (m * sz))).toArray E fr))) (hk0 : ys = [] → K (.slice (some ⟨b, 0, none⟩) (n + m) cap) L) :
    SW P (Builtin.append_ tsz ty #[.slice (some ⟨b, 0, none⟩) n cap, x]) K L := by
  obtain ⟨hs, hn⟩ := elemOf_some he
  have hmul : n * sz + m * sz ≤ cap * sz := by rw [← Nat.add_mul]; exact Nat.mul_le_mul_right _ hfit
  have hsub : (cap - n) * sz = cap * sz - n * sz := Nat.sub_mul _ _ _
  have fin : SW P (do Go.storeCells ((⟨b, 0, none⟩ : Addr).add (n * sz)) ys; Pure.pure (Value.slice (some ⟨b, 0, none⟩) (n + m) cap) : Sem Value) K L := by
    rw [add_none]
    have hlen : (xs ++ sp).toArray.size = cap * sz := by simp; omega
    have e : putAt (xs ++ sp).toArray (n * sz) ys = (xs ++ (ys ++ sp.drop (m * sz))).toArray := by
      have h3 : sp = sp.take (m * sz) ++ sp.drop (m * sz) := (List.take_append_drop _ _).symm
      conv => lhs; rw [h3]
      rw [← hxs]
      exact putAt_list xs (sp.take (m * sz)) (sp.drop (m * sz)) ys (by rw [List.length_take]; omega)
    have hne : ys ≠ [] → K (.slice (some ⟨b, 0, none⟩) (n + m) cap) (M (.cells (putAt (xs ++ sp).toArray (n * sz) ys) E fr)) := fun g => by rw [e]; exact hk g
    refine SW.bind (SW.storeCells ys 0 _ (by rcases hf with g | g <;> omega) r rm.w hc (by rw [hlen]; omega) (fun g => SW.pure ?_) (fun e0 => SW.pure (hk0 e0)))
    simpa using hne g
  unfold Builtin.append_
  simp only [h0, h1, show (#[Value.slice (some ⟨b, 0, none⟩) n cap, x] : Array Value)[0]? = some (.slice (some ⟨b, 0, none⟩) n cap) from rfl, show (#[Value.slice (some ⟨b, 0, none⟩) n cap, x] : Array Value)[1]? = some x from rfl]
  refine SW.bind (SW.underlying hs ?_)
  refine SW.bind (SW.sizeOf hn ?_)
  rcases apTy_or hx with ⟨e', hX⟩ | hX
  · refine SW.bind (SW.underlying hX (SW.bind (SW.pure ?_)))
    simp only [Bool.false_eq_true, if_false, Bool.not_false, if_true]
    refine SW.bind (SW.runs (fun _ w _ => src.1 w) ?_)
    rw [if_pos hfit]
    refine SW.bind (SW.runs src.2 ?_)
    exact fin
  · refine SW.bind (SW.underlying hX (SW.bind (SW.pure ?_)))
    simp only [Bool.false_eq_true, if_false, Bool.not_false, if_true]
    refine SW.bind (SW.runs (fun _ w _ => src.1 w) ?_)
    rw [if_pos hfit]
    refine SW.bind (SW.runs src.2 ?_)
    exact fin
end
end Go.SL
