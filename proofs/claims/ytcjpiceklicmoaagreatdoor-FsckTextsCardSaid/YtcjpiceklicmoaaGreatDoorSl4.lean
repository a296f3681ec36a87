/- SL 4: the operations' rules. Generic in the program. -/
import Derived.Test.YtcjpiceklicmoaaGreatDoorSl3
import Derived.IntWalk
namespace Go.SL
set_option linter.unusedVariables false
set_option linter.unusedSimpArgs false

theorem add_none (b off n : Nat) : (⟨b, off, none⟩ : Addr).add n = ⟨b, off + n, none⟩ := by
  unfold Addr.add; split
  · rename_i h; subst h; rfl
  · rfl

/-! ### Memory: several cells -/
section
variable {P : Program} {L : List HP}
/-- The cells from off on, n of them. -/
def cellsAt (cs : Array Value) (off : Nat) : Nat → List Value
  | 0 => []
  | n + 1 => (cs[off]?.getD undef) :: cellsAt cs (off + 1) n
theorem SW.loadCellsFrom {b off : Nat} {cs : Array Value} {T : TypeId} {fr : Nat × Nat} (r : Rd L b (.cells cs T fr)) : ∀ (n i : Nat) (acc : Array Value) {K : Array Value → List HP → Prop}, off + i + n ≤ cs.size →
    K (acc ++ (cellsAt cs (off + i) n).toArray) L → SW P (Go.loadCellsFrom ⟨b, off, none⟩ i n acc) K L
  | 0, i, acc, K, _, h => SW.pure (by simpa [cellsAt] using h)
  | n + 1, i, acc, K, hn, h => by
    refine SW.bind ?_
    rw [add_none]
    have hlt : off + i < cs.size := by omega
    refine SW.load r (v := cs[off + i]) (by simp [hlt]) ?_
    refine SW.loadCellsFrom r n (i + 1) _ (by omega) ?_
    have e : acc.push cs[off + i] ++ (cellsAt cs (off + (i + 1)) n).toArray = acc ++ (cellsAt cs (off + i) (n + 1)).toArray := by
      apply Array.toList_inj.1
      rw [cellsAt, Array.getElem?_eq_getElem hlt]
      simp [Nat.add_assoc]
    rw [e]; exact h
theorem SW.loadCells {b off n : Nat} {cs : Array Value} {T : TypeId} {fr : Nat × Nat} {K : Array Value → List HP → Prop} (r : Rd L b (.cells cs T fr)) (hn : off + n ≤ cs.size) (h : K (cellsAt cs off n).toArray L) :
    SW P (Go.loadCells ⟨b, off, none⟩ n) K L := SW.loadCellsFrom r n 0 #[] (by simpa using hn) (by simpa using h)

/-- A type of one cell; one of several, with how many. -/
def tyAgg (P : Program) (t : TypeId) : Option Bool := (P.underlying t).map fun d => match d with | .struct _ | .array _ _ => true | _ => false
def tySize (P : Program) (t : TypeId) : Option Nat := (P.info? t).map (·.size)
def tyZero (P : Program) (t : TypeId) : Option Value := (P.info? t).bind (·.zero)
def tyBytes (P : Program) (t : TypeId) : Option Nat := (P.info? t).map (·.bytes)

theorem SW.isAgg {t : TypeId} {x : Bool} {K : Bool → List HP → Prop} (e : tyAgg P t = some x) (h : K x L) : SW P (Go.isAgg t) K L := by
  unfold tyAgg at e
  cases hd : P.underlying t with
  | none => simp [hd] at e
  | some d =>
    rw [hd] at e
    refine SW.bind (SW.underlying hd ?_)
    cases d <;> simp at e <;> subst e <;> exact SW.pure h

theorem SW.loadVar1 {t : TypeId} {b off : Nat} {cs : Array Value} {T : TypeId} {fr : Nat × Nat} {v : Value} {K : Value → List HP → Prop} (ht : tyAgg P t = some false) (r : Rd L b (.cells cs T fr)) (hc : cs[off]? = some v) (h : K v L) :
    SW P (Go.loadVar t ⟨b, off, none⟩) K L := SW.bind (SW.isAgg ht (SW.load r hc h))
theorem SW.loadVarN {t n : Nat} {b off : Nat} {cs : Array Value} {T : TypeId} {fr : Nat × Nat} {K : Value → List HP → Prop} (ht : tyAgg P t = some true) (hs : tySize P t = some n) (r : Rd L b (.cells cs T fr))
    (hn : off + n ≤ cs.size) (h : K (.agg (cellsAt cs off n).toArray) L) : SW P (Go.loadVar t ⟨b, off, none⟩) K L :=
  SW.bind (SW.isAgg ht (SW.bind (SW.sizeOf hs (SW.bind (SW.loadCells r hn (SW.pure h))))))

/-- Cells written from off on. -/
def putAt (cs : Array Value) (off : Nat) : List Value → Array Value
  | [] => cs
  | v :: vs => putAt (cs.setIfInBounds off v) (off + 1) vs
theorem putAt_size (cs : Array Value) (off : Nat) (vs : List Value) : (putAt cs off vs).size = cs.size := by
  induction vs generalizing cs off with
  | nil => rfl
  | cons v vs ih => simp [putAt, ih]
theorem SW.storeCells {b off : Nat} {T : TypeId} {fr : Nat × Nat} {M : Obj → List HP} : ∀ (vs : List Value) (i : Nat) (cs : Array Value) {L : List HP} {K : Unit → List HP → Prop}, (fr.2 ≤ fr.1 ∨ off + i + vs.length ≤ fr.1) → Wr L b (.cells cs T fr) M →
    (∀ o, Wr (M o) b o M) → vs.all isCell = true → off + i + vs.length ≤ cs.size → (vs ≠ [] → K () (M (.cells (putAt cs (off + i) vs) T fr))) → (vs = [] → K () L) → SW P (Go.storeCells ⟨b, off, none⟩ vs i) K L
  | [], i, cs, L, K, hf, r, hM, hv, hn, h, h0 => SW.pure (h0 rfl)
  | v :: vs, i, cs, L, K, hf, r, hM, hv, hn, h, h0 => by
    have hv' : isCell v = true ∧ vs.all isCell = true := by simpa using hv
    simp only [List.length_cons] at hn hf
    refine SW.bind ?_
    rw [add_none]
    refine SW.store r hv'.1 (by omega) ?_ ?_
    · have : ¬(fr.1 ≤ off + i ∧ off + i < fr.2) := by omega
      simpa using this
    · cases vs with
      | nil => exact SW.pure (h (by simp))
      | cons u us => exact SW.storeCells (u :: us) (i + 1) _ (by simp at hf ⊢; omega) (hM _) hM hv'.2 (by simp at hn ⊢; omega) (fun _ => by simpa [putAt, Nat.add_assoc] using h (by simp)) (fun e => by cases e)
theorem Wr.again {b : Nat} {o : Obj} {M : Obj → List HP} (r : Wr L b o M) : True := trivial
end

/-- What is written may be written again: by the way it was found. -/
class WrM (M : Obj → List HP) (b : Nat) : Prop where
  w : ∀ o, Wr (M o) b o M
instance WrM.here {b : Nat} {L : List HP} : WrM (fun o' => pts b o' :: L) b := ⟨fun o => Wr.here⟩
instance WrM.there {A : HP} {b : Nat} {M : Obj → List HP} [r : WrM M b] : WrM (fun o' => A :: M o') b := ⟨fun o => @Wr.there A b o (M o) M (r.w o)⟩

section
variable {P : Program} {L : List HP}
theorem SW.storeVar {t n : Nat} {b off : Nat} {cs : Array Value} {T : TypeId} {fr : Nat × Nat} {M : Obj → List HP} {v : Value} {vs : List Value} {K : Unit → List HP → Prop} (hs : tySize P t = some n) (r : Wr L b (.cells cs T fr) M) (rm : WrM M b)
    (hvc : v.cells = vs.toArray) (hl : vs.length = n) (h0 : vs ≠ []) (hv : vs.all isCell = true) (hf : fr.2 ≤ fr.1 ∨ off + n ≤ fr.1) (hn : off + n ≤ cs.size) (h : K () (M (.cells (putAt cs off vs) T fr))) : SW P (Go.storeVar t ⟨b, off, none⟩ v) K L := by
  unfold Go.storeVar
  refine SW.bind (SW.sizeOf hs ?_)
  simp only [hvc, List.size_toArray, hl, ne_eq, not_true_eq_false, if_false]
  exact SW.storeCells vs 0 cs (by simpa [hl] using hf) r rm.w hv (by simpa [hl] using hn) (fun _ => by simpa using h) (fun e => absurd e h0)
end

class TA (P : Program) (t : Nat) (x : outParam Bool) : Prop where h : tyAgg P t = some x
class TS (P : Program) (t : Nat) (n : outParam Nat) : Prop where h : tySize P t = some n
class TB (P : Program) (t : Nat) (n : outParam Nat) : Prop where h : tyBytes P t = some n
/-- The cells of a type's zero value. -/
class TZ (P : Program) (t : Nat) (z : outParam (List Value)) : Prop where h : (tyZero P t).map Value.cells = some z.toArray
class TU (P : Program) (t : Nat) (d : outParam TypeDesc) : Prop where h : P.underlying t = some d
theorem TZ.ex {P : Program} {t : Nat} {z : List Value} (h : TZ P t z) : ∃ v, tyZero P t = some v ∧ v.cells = z.toArray := by
  have := h.h
  cases hz : tyZero P t with
  | none => simp [hz] at this
  | some v => simp [hz] at this; exact ⟨v, rfl, this⟩
/-- A list's element; a piece of a list; a list with a piece written. -/
def lget : List Value → Nat → Option Value
  | [], _ => none
  | a :: _, 0 => some a
  | _ :: l, n + 1 => lget l n
theorem lget_eq : ∀ (l : List Value) (n : Nat), lget l n = l[n]?
  | [], n => by simp [lget]
  | a :: l, 0 => rfl
  | a :: l, n + 1 => by simp [lget, lget_eq l n]
def lsub : List Value → Nat → Nat → List Value
  | _, _, 0 => []
  | [], _, _ + 1 => []
  | a :: l, 0, n + 1 => a :: lsub l 0 n
  | _ :: l, k + 1, n + 1 => lsub l k (n + 1)
theorem lsub_eq : ∀ (l : List Value) (k n : Nat), lsub l k n = (l.drop k).take n
  | l, k, 0 => by simp [lsub]
  | [], k, n + 1 => by simp [lsub]
  | a :: l, 0, n + 1 => by simp [lsub, lsub_eq l 0 n]
  | a :: l, k + 1, n + 1 => by simp [lsub, lsub_eq l k (n + 1)]
def lput : List Value → Nat → List Value → List Value
  | l, _, [] => l
  | [], _, _ :: _ => []
  | _ :: l, 0, v :: vs => v :: lput l 0 vs
  | a :: l, k + 1, v :: vs => a :: lput l k (v :: vs)
theorem lput_length : ∀ (l : List Value) (k : Nat) (vs : List Value), (lput l k vs).length = l.length
  | l, k, [] => by cases l <;> rfl
  | [], k, _ :: _ => rfl
  | a :: l, 0, v :: vs => by simp [lput, lput_length l 0 vs]
  | a :: l, k + 1, v :: vs => by simp [lput, lput_length l k (v :: vs)]
theorem cellsAt_lsub : ∀ (l : List Value) (k n : Nat), k + n ≤ l.length → cellsAt l.toArray k n = lsub l k n := by
  intro l k n
  induction n generalizing k with
  | zero => intro _; cases l <;> simp [cellsAt, lsub]
  | succ n ih =>
    intro h
    rw [cellsAt, ih (k + 1) (by omega), lsub_eq, lsub_eq]
    have hk : k < l.length := by omega
    rw [List.drop_eq_getElem_cons hk, List.take_succ_cons]
    simp [hk]
theorem lput_nil (l : List Value) (k : Nat) : lput l k [] = l := by cases l <;> rfl
theorem putAt_lput : ∀ (l : List Value) (k : Nat) (vs : List Value), k + vs.length ≤ l.length → putAt l.toArray k vs = (lput l k vs).toArray := by
  intro l k vs
  induction vs generalizing l k with
  | nil => intro _; cases l <;> rfl
  | cons v vs ih =>
    intro h
    simp only [List.length_cons] at h
    rw [putAt]
    have e : l.toArray.setIfInBounds k v = (l.set k v).toArray := by simp
    rw [e, ih _ _ (by simp; omega)]
    congr 1
    clear ih e
    induction l generalizing k with
    | nil => simp at h
    | cons a l ihl =>
      cases k with
      | zero => simp only [List.set_cons_zero]; cases vs with
        | nil => simp only [lput, lput_nil]
        | cons u us => rfl
      | succ k =>
        simp only [List.set_cons_succ]
        have := ihl k (by simp at h; omega)
        cases vs with
        | nil => simp only [lput, lput_nil] at this ⊢; rw [← this]
        | cons u us => simp only [lput] at this ⊢; rw [this]
/-- A list, written out. -/
def NL (l l' : List Value) : Prop := l = l'
theorem NL.nil {l : List Value} (h : l = []) : NL l [] := h
theorem NL.cons {l t t' : List Value} {a : Value} (h : l = a :: t) (ht : NL t t') : NL l (a :: t') := by rw [NL] at *; rw [h, ht]
theorem nl {l l' : List Value} (h : NL l l' := by repeat (first | exact NL.nil rfl | (refine NL.cons (t' := ?_) rfl ?_; rotate_left))) : NL l l' := h
/-- A value's cells, written out. -/
def Cel (v : Value) (l : List Value) : Prop := v.cells = l.toArray
theorem Cel.one {v : Value} (h : isCell v = true) : Cel v [v] := by cases v <;> simp [isCell] at h <;> rfl
theorem Cel.agg {l : List Value} : Cel (.agg l.toArray) l := rfl
theorem cel {v : Value} {l : List Value} (h : Cel v l := by first | exact Cel.one rfl | exact Cel.agg) : Cel v l := h

section
variable {P : Program} {ro : Option Nat} {f : Frm} {L : List HP} {d : Option Nat} {ty : TypeId} {ps : String} {af : Array Edge} {gu : Option (Nat × Bool)} {K : Value → List HP → Prop}

/-- An operation that answers a value (or nothing). -/
def SV (P : Program) (ro : Option Nat) (o : Oper) (f : Frm) (K : Value → List HP → Prop) (L : List HP) : Prop :=
  SW P (o.semAt ro f.ev) (fun nx L' => ∃ v, (nx = .value v ∨ (nx = .skip ∧ v = undef)) ∧ K v L') L
theorem SV.val {o : Oper} (s : Sem Value) (nd : ∀ c, o.op ≠ .defer c) (e : execOp f.ev o = (do let v ← s; pure (.value v))) (h : SW P s K L) : SV P ro o f K L := by
  unfold SV
  rw [Oper.semAt_eq _ _ _ nd, e]
  exact SW.bind (h.mono fun v L' hv => SW.pure ⟨v, .inl rfl, hv⟩)
theorem SV.unit {o : Oper} (s : Sem Unit) (nd : ∀ c, o.op ≠ .defer c) (e : execOp f.ev o = (do s; pure .skip)) (h : SW P s (fun _ L' => K undef L') L) : SV P ro o f K L := by
  unfold SV
  rw [Oper.semAt_eq _ _ _ nd, e]
  exact SW.bind (h.mono fun v L' hv => SW.pure ⟨undef, .inr ⟨rfl, rfl⟩, hv⟩)
theorem OW.sv {o : Oper} {next : Frm → List HP → Prop} (h : SV P ro o f (fun v L' => next (f.putO o.dst v) L') L) : OW P ro o f next L := by
  refine SW.mono h ?_
  rintro nx L' ⟨v, rfl | ⟨rfl, rfl⟩, h⟩ <;> exact h
theorem WO.sv {N : Nat} {all : Array Oper} {op : Op} {rest : List Oper} {Q : Post} (hd : dOk N d = true) (h : SV P ro ⟨d, op, ty, ps, af, none⟩ f (fun v L' => WO P N ro all rest Q (f.putO d v) L') L) : WO P N ro all (⟨d, op, ty, ps, af, none⟩ :: rest) Q f L :=
  WO.op hd (OW.sv h)

theorem SV.move {x : Operand} {v : Value} (hx : f.ev x = v) (h : K v L) : SV P ro ⟨d, .move x, ty, ps, af, gu⟩ f K L := by
  subst hx; exact (SV.val (pure (f.ev x)) (by intro c h; cases h) rfl (SW.pure h))
theorem SV.assign {x : Operand} {v : Value} (hx : f.ev x = v) (h : K v L) : SV P ro ⟨d, .assign x, ty, ps, af, gu⟩ f K L := by
  subst hx; exact (SV.val (pure (f.ev x)) (by intro c h; cases h) rfl (SW.pure h))
theorem SV.pick {c x y : Operand} {b : Bool} {v : Value} (hc : f.ev c = .bool b) (hv : (bif b then f.ev x else f.ev y) = v) (h : K v L) :
    SV P ro ⟨d, .pick c x y, ty, ps, af, gu⟩ f K L := by
  subst hv
  unfold SV
  rw [Oper.semAt_eq _ _ _ (by intro c h; cases h)]
  simp only [execOp, hc, asBool]
  refine SW.bind (SW.pure (SW.pure ⟨_, .inl rfl, ?_⟩))
  cases b <;> exact h
theorem SV.alloc {t : TypeId} {z : List Value} [hz : TZ P t z] (h : ∀ b, K (.pointer (some ⟨b, 0, none⟩)) (pts b (.cells z.toArray t) :: L)) :
    SV P ro ⟨d, .alloc t, ty, ps, af, gu⟩ f K L := by
  obtain ⟨v, h1, h2⟩ := hz.ex
  refine (SV.val (Instr.alloc t true (.tuple #[])) (by intro c h; cases h) rfl ?_)
  unfold Instr.alloc
  refine SW.bind (SW.zeroValue h1 ?_)
  refine SW.bind (SW.bind (SW.new fun b => SW.pure (SW.pure ?_)))
  rw [h2]; exact h b
theorem SV.box {t : TypeId} {x : Operand} {v : Value} {cs : List Value} (hx : f.ev x = v) (hc : Cel v cs) (h : ∀ b, K (.pointer (some ⟨b, 0, none⟩)) (pts b (.cells cs.toArray t) :: L)) :
    SV P ro ⟨d, .box t x, ty, ps, af, gu⟩ f K L := by
  subst hx
  refine (SV.val (Instr.box t (f.ev x)) (by intro c h; cases h) rfl ?_)
  refine SW.bind (SW.bind (SW.new fun b => SW.pure (SW.pure ?_)))
  rw [hc]; exact h b
theorem SV.load {t : TypeId} {x : Operand} {b off : Nat} {l : List Value} {T : TypeId} {fr : Nat × Nat} {v : Value} (hx : f.ev x = .pointer (some ⟨b, off, none⟩)) [ht : TA P t false] [r : Rd L b (.cells l.toArray T fr)]
    (hc : lget l off = some v) (h : K v L) : SV P ro ⟨d, .load t x, ty, ps, af, gu⟩ f K L := by
  refine (SV.val (Instr.loadAt t (f.ev x)) (by intro c h; cases h) rfl ?_)
  rw [hx]
  exact SW.bind (SW.pure (SW.loadVar1 ht.h r (by rw [lget_eq] at hc; simpa using hc) h))
theorem SV.loadN {t n : Nat} {x : Operand} {b off : Nat} {l : List Value} {T : TypeId} {fr : Nat × Nat} {vs : List Value} (hx : f.ev x = .pointer (some ⟨b, off, none⟩)) [ht : TA P t true] [hs : TS P t n] [r : Rd L b (.cells l.toArray T fr)]
    (hv : NL (lsub l off n) vs) (hn : off + n ≤ l.length) (h : K (.agg vs.toArray) L) : SV P ro ⟨d, .load t x, ty, ps, af, gu⟩ f K L := by
  refine (SV.val (Instr.loadAt t (f.ev x)) (by intro c h; cases h) rfl ?_)
  rw [hx]
  refine SW.bind (SW.pure (SW.loadVarN ht.h hs.h r (by simpa using hn) ?_))
  rw [cellsAt_lsub l off n hn, hv]; exact h
theorem SV.store {t n : Nat} {x y : Operand} {b off : Nat} {l l' : List Value} {T : TypeId} {fr : Nat × Nat} {M : Obj → List HP} {v : Value} {vs : List Value} (hx : f.ev x = .pointer (some ⟨b, off, none⟩)) [hs : TS P t n] [r : Wr L b (.cells l.toArray T fr) M] [rm : WrM M b]
    (hy : f.ev y = v) (hvc : Cel v vs) (hl : Nat.beq vs.length n = true) (h0 : vs.isEmpty = false) (hv : vs.all isCell = true) (hf : fr.2 ≤ fr.1 ∨ off + n ≤ fr.1) (hn : off + n ≤ l.length) (hl' : NL (lput l off vs) l')
    (h : K undef (M (.cells l'.toArray T fr))) : SV P ro ⟨d, .store t x y, ty, ps, af, gu⟩ f K L := by
  have hl := Nat.eq_of_beq_eq_true hl
  refine (SV.unit (Instr.storeAt t (f.ev x) (f.ev y)) (by intro c h; cases h) rfl ?_)
  rw [hx]
  refine SW.bind (SW.pure (SW.storeVar hs.h r rm (by rw [hy]; exact hvc) hl (by intro e; rw [e] at h0; cases h0) hv hf (by simpa using hn) ?_))
  rw [putAt_lput l off vs (by omega), hl']; exact h
/-- A store into a row that is not written out. -/
theorem SV.storeS {t : Nat} {x y : Operand} {b off : Nat} {l : List Value} {T : TypeId} {fr : Nat × Nat} {M : Obj → List HP} {v : Value} (hx : f.ev x = .pointer (some ⟨b, off, none⟩)) [hs : TS P t 1] [r : Wr L b (.cells l.toArray T fr) M] [rm : WrM M b]
    (hy : f.ev y = v) (hv : isCell v = true) (hf : fr.2 ≤ fr.1 ∨ off + 1 ≤ fr.1) (hn : off < l.length)
    (h : K undef (M (.cells (l.set off v).toArray T fr))) : SV P ro ⟨d, .store t x y, ty, ps, af, gu⟩ f K L := by
  refine (SV.unit (Instr.storeAt t (f.ev x) (f.ev y)) (by intro c h; cases h) rfl ?_)
  rw [hx]
  refine SW.bind (SW.pure (SW.storeVar hs.h r rm (vs := [v]) (by rw [hy]; exact Cel.one hv) rfl (by simp) (by simp [hv]) hf (by simp; omega) ?_))
  have e : putAt l.toArray off [v] = (l.set off v).toArray := by simp [putAt]
  rw [e]; exact h
theorem SV.nilCheck {x : Operand} {a : Addr} (hx : f.ev x = .pointer (some a)) (h : K (.pointer (some a)) L) : SV P ro ⟨d, .nilCheck x, ty, ps, af, gu⟩ f K L := by
  refine (SV.val (pure (f.ev x)) (by intro c h; cases h) ?_ (by rw [hx]; exact SW.pure h))
  simp only [execOp, hx, bind, Sem.bind, pure]
end
end Go.SL
