/- SL 11: drivers: the steps that need no thought, by one name. (Written by mkb.py.) -/
import Derived.Test.YtcjpiceklicmoaaGreatDoorSlA
namespace Go.SL
set_option linter.unusedVariables false
set_option linter.unusedSimpArgs false

/-- A number in its range. -/
theorem wI {k : IntKind} {n z : Int} (h : k.wrap n = z := by first | exact i64w (by omega) (by omega) | exact u8w (by omega) (by omega) | exact u64w (by omega) (by omega) | exact u32w (by omega) (by omega) | rfl) : k.wrap n = z := h
/-- A quotient, a rest. -/
theorem wQ {k : IntKind} {a b z : Int} (h : k.wrap (a.tdiv b) = z := by first | exact i64q (by omega) (by omega) (by omega) | exact u8q (by omega) (by omega) (by omega) | exact u64q (by omega) (by omega) (by omega) | rfl) : k.wrap (a.tdiv b) = z := h
theorem wR {a b z : Int} (h : a.tmod b = z := by first | exact remP (by omega) | rfl) : a.tmod b = z := h
theorem nz {b : Int} (h : b ≠ 0 := by first | decide | omega) : b ≠ 0 := h
theorem le0 {a b : Nat} (h : a ≤ b := by first | exact Nat.le_refl _ | decide | (simp; done) | (simp; omega) | omega) : a ≤ b := h
theorem frz {a b c : Nat} (h : b ≤ a ∨ c ≤ a := by first | exact .inl (Nat.le_refl _) | omega | (simp; done)) : b ≤ a ∨ c ≤ a := h
/-- A test that is decided. -/
theorem dT {p : Prop} (h : p := by first | omega | decide) : p := h
theorem iT {p : Prop} (h : p := by first | omega | decide | (simp; done) | (simp; omega)) : p := h

theorem eqq {v : Value} {L : List HP} : v = v ∧ L = L := ⟨rfl, rfl⟩
/-- What is left to do: behind a name, so that no tactic takes it up. -/
structure Hold (q : Prop) : Prop where
  out : q

section
variable {P : Program} {ro : Option Nat} {f : Frm} {L : List HP} {d : Option Nat} {ty : TypeId} {ps : String} {af : Array Edge} {gu : Option (Nat × Bool)} {K : Value → List HP → Prop}
theorem SV.isMove {x : Operand} (h : SV P ro ⟨d, .move x, ty, ps, af, gu⟩ f K L) : SV P ro ⟨d, .move x, ty, ps, af, gu⟩ f K L := h
theorem SV.isAsn {x : Operand} (h : SV P ro ⟨d, .assign x, ty, ps, af, gu⟩ f K L) : SV P ro ⟨d, .assign x, ty, ps, af, gu⟩ f K L := h
theorem SV.isBin {x : Operand} {y : Operand} {t : TypeId} {yt : TypeId} {o : BinOp} (h : SV P ro ⟨d, .binOp o t x y yt, ty, ps, af, gu⟩ f K L) : SV P ro ⟨d, .binOp o t x y yt, ty, ps, af, gu⟩ f K L := h
theorem SV.isBi {bi : Builtin} {as : Array Operand} {ts : Array TypeId} (h : SV P ro ⟨d, .call { callee := .builtin bi, args := as, argTypes := ts }, ty, ps, af, gu⟩ f K L) : SV P ro ⟨d, .call { callee := .builtin bi, args := as, argTypes := ts }, ty, ps, af, gu⟩ f K L := h
theorem SV.isLd {x : Operand} {t : TypeId} (h : SV P ro ⟨d, .load t x, ty, ps, af, gu⟩ f K L) : SV P ro ⟨d, .load t x, ty, ps, af, gu⟩ f K L := h
theorem SV.isSt {x : Operand} {y : Operand} {t : TypeId} (h : SV P ro ⟨d, .store t x y, ty, ps, af, gu⟩ f K L) : SV P ro ⟨d, .store t x y, ty, ps, af, gu⟩ f K L := h
theorem SV.isFld {x : Operand} {t : TypeId} {i : Nat} (h : SV P ro ⟨d, .field t x i, ty, ps, af, gu⟩ f K L) : SV P ro ⟨d, .field t x i, ty, ps, af, gu⟩ f K L := h
theorem SV.isIdx {x : Operand} {y : Operand} {t : TypeId} (h : SV P ro ⟨d, .indexAddr t x y, ty, ps, af, gu⟩ f K L) : SV P ro ⟨d, .indexAddr t x y, ty, ps, af, gu⟩ f K L := h
theorem SV.isUn {x : Operand} {t : TypeId} {u : UnOp} (h : SV P ro ⟨d, .unOp u t x, ty, ps, af, gu⟩ f K L) : SV P ro ⟨d, .unOp u t x, ty, ps, af, gu⟩ f K L := h
theorem SV.isCut {x : Operand} {t : TypeId} {lo : Option Operand} {hi : Option Operand} {mx : Option Operand} (h : SV P ro ⟨d, .slice t x lo hi mx, ty, ps, af, gu⟩ f K L) : SV P ro ⟨d, .slice t x lo hi mx, ty, ps, af, gu⟩ f K L := h
theorem SV.isBox {x : Operand} {t : TypeId} (h : SV P ro ⟨d, .box t x, ty, ps, af, gu⟩ f K L) : SV P ro ⟨d, .box t x, ty, ps, af, gu⟩ f K L := h
theorem SV.isBuild {t : TypeId} {pa : Array (Nat × Operand)} (h : SV P ro ⟨d, .build t pa, ty, ps, af, gu⟩ f K L) : SV P ro ⟨d, .build t pa, ty, ps, af, gu⟩ f K L := h
theorem SV.isConv {x : Operand} {t : TypeId} {yt : TypeId} (h : SV P ro ⟨d, .convert t yt x, ty, ps, af, gu⟩ f K L) : SV P ro ⟨d, .convert t yt x, ty, ps, af, gu⟩ f K L := h
theorem SV.isPick {x : Operand} {y : Operand} {z : Operand} (h : SV P ro ⟨d, .pick z x y, ty, ps, af, gu⟩ f K L) : SV P ro ⟨d, .pick z x y, ty, ps, af, gu⟩ f K L := h
section
variable {t yt : TypeId} {x y : Operand} {k : IntKind} {a b : Int}
theorem SV.eqlT (hx : f.ev x = .int k a) (hy : f.ev y = .int k b) (q : a = b) (h : K (.bool true) L) : SV P ro ⟨d, .binOp .eql t x y yt, ty, ps, af, gu⟩ f K L := by
  refine SV.eql hx hy ?_
  have e : decide (a = b) = true := by simpa using q
  rw [e]; exact h
theorem SV.eqlF (hx : f.ev x = .int k a) (hy : f.ev y = .int k b) (q : a ≠ b) (h : K (.bool false) L) : SV P ro ⟨d, .binOp .eql t x y yt, ty, ps, af, gu⟩ f K L := by
  refine SV.eql hx hy ?_
  have e : decide (a = b) = false := by simp only [Bool.not_eq_false', decide_eq_true_eq, decide_eq_false_iff_not]; omega
  rw [e]; exact h
theorem SV.eqlC (hx : f.ev x = .int k a) (hy : f.ev y = .int k b) (h1 : a = b → K (.bool true) L) (h2 : a ≠ b → K (.bool false) L) : SV P ro ⟨d, .binOp .eql t x y yt, ty, ps, af, gu⟩ f K L :=
  if q : a = b then SV.eqlT hx hy q (h1 q) else SV.eqlF hx hy (by omega) (h2 (by omega))
theorem SV.neqT (hx : f.ev x = .int k a) (hy : f.ev y = .int k b) (q : a ≠ b) (h : K (.bool true) L) : SV P ro ⟨d, .binOp .neq t x y yt, ty, ps, af, gu⟩ f K L := by
  refine SV.neq hx hy ?_
  have e : (!decide (a = b)) = true := by simpa using q
  rw [e]; exact h
theorem SV.neqF (hx : f.ev x = .int k a) (hy : f.ev y = .int k b) (q : a = b) (h : K (.bool false) L) : SV P ro ⟨d, .binOp .neq t x y yt, ty, ps, af, gu⟩ f K L := by
  refine SV.neq hx hy ?_
  have e : (!decide (a = b)) = false := by simp only [Bool.not_eq_false', decide_eq_true_eq, decide_eq_false_iff_not]; omega
  rw [e]; exact h
theorem SV.neqC (hx : f.ev x = .int k a) (hy : f.ev y = .int k b) (h1 : a ≠ b → K (.bool true) L) (h2 : a = b → K (.bool false) L) : SV P ro ⟨d, .binOp .neq t x y yt, ty, ps, af, gu⟩ f K L :=
  if q : a ≠ b then SV.neqT hx hy q (h1 q) else SV.neqF hx hy (by omega) (h2 (by omega))
theorem SV.lssT (hx : f.ev x = .int k a) (hy : f.ev y = .int k b) (q : a < b) (h : K (.bool true) L) : SV P ro ⟨d, .binOp .lss t x y yt, ty, ps, af, gu⟩ f K L := by
  refine SV.lss hx hy ?_
  have e : decide (a < b) = true := by simpa using q
  rw [e]; exact h
theorem SV.lssF (hx : f.ev x = .int k a) (hy : f.ev y = .int k b) (q : b ≤ a) (h : K (.bool false) L) : SV P ro ⟨d, .binOp .lss t x y yt, ty, ps, af, gu⟩ f K L := by
  refine SV.lss hx hy ?_
  have e : decide (a < b) = false := by simp only [Bool.not_eq_false', decide_eq_true_eq, decide_eq_false_iff_not]; omega
  rw [e]; exact h
theorem SV.lssC (hx : f.ev x = .int k a) (hy : f.ev y = .int k b) (h1 : a < b → K (.bool true) L) (h2 : b ≤ a → K (.bool false) L) : SV P ro ⟨d, .binOp .lss t x y yt, ty, ps, af, gu⟩ f K L :=
  if q : a < b then SV.lssT hx hy q (h1 q) else SV.lssF hx hy (by omega) (h2 (by omega))
theorem SV.leqT (hx : f.ev x = .int k a) (hy : f.ev y = .int k b) (q : a ≤ b) (h : K (.bool true) L) : SV P ro ⟨d, .binOp .leq t x y yt, ty, ps, af, gu⟩ f K L := by
  refine SV.leq hx hy ?_
  have e : decide (a ≤ b) = true := by simpa using q
  rw [e]; exact h
theorem SV.leqF (hx : f.ev x = .int k a) (hy : f.ev y = .int k b) (q : b < a) (h : K (.bool false) L) : SV P ro ⟨d, .binOp .leq t x y yt, ty, ps, af, gu⟩ f K L := by
  refine SV.leq hx hy ?_
  have e : decide (a ≤ b) = false := by simp only [Bool.not_eq_false', decide_eq_true_eq, decide_eq_false_iff_not]; omega
  rw [e]; exact h
theorem SV.leqC (hx : f.ev x = .int k a) (hy : f.ev y = .int k b) (h1 : a ≤ b → K (.bool true) L) (h2 : b < a → K (.bool false) L) : SV P ro ⟨d, .binOp .leq t x y yt, ty, ps, af, gu⟩ f K L :=
  if q : a ≤ b then SV.leqT hx hy q (h1 q) else SV.leqF hx hy (by omega) (h2 (by omega))
theorem SV.gtrT (hx : f.ev x = .int k a) (hy : f.ev y = .int k b) (q : b < a) (h : K (.bool true) L) : SV P ro ⟨d, .binOp .gtr t x y yt, ty, ps, af, gu⟩ f K L := by
  refine SV.gtr hx hy ?_
  have e : decide (b < a) = true := by simpa using q
  rw [e]; exact h
theorem SV.gtrF (hx : f.ev x = .int k a) (hy : f.ev y = .int k b) (q : a ≤ b) (h : K (.bool false) L) : SV P ro ⟨d, .binOp .gtr t x y yt, ty, ps, af, gu⟩ f K L := by
  refine SV.gtr hx hy ?_
  have e : decide (b < a) = false := by simp only [Bool.not_eq_false', decide_eq_true_eq, decide_eq_false_iff_not]; omega
  rw [e]; exact h
theorem SV.gtrC (hx : f.ev x = .int k a) (hy : f.ev y = .int k b) (h1 : b < a → K (.bool true) L) (h2 : a ≤ b → K (.bool false) L) : SV P ro ⟨d, .binOp .gtr t x y yt, ty, ps, af, gu⟩ f K L :=
  if q : b < a then SV.gtrT hx hy q (h1 q) else SV.gtrF hx hy (by omega) (h2 (by omega))
theorem SV.geqT (hx : f.ev x = .int k a) (hy : f.ev y = .int k b) (q : b ≤ a) (h : K (.bool true) L) : SV P ro ⟨d, .binOp .geq t x y yt, ty, ps, af, gu⟩ f K L := by
  refine SV.geq hx hy ?_
  have e : decide (b ≤ a) = true := by simpa using q
  rw [e]; exact h
theorem SV.geqF (hx : f.ev x = .int k a) (hy : f.ev y = .int k b) (q : a < b) (h : K (.bool false) L) : SV P ro ⟨d, .binOp .geq t x y yt, ty, ps, af, gu⟩ f K L := by
  refine SV.geq hx hy ?_
  have e : decide (b ≤ a) = false := by simp only [Bool.not_eq_false', decide_eq_true_eq, decide_eq_false_iff_not]; omega
  rw [e]; exact h
theorem SV.geqC (hx : f.ev x = .int k a) (hy : f.ev y = .int k b) (h1 : b ≤ a → K (.bool true) L) (h2 : a < b → K (.bool false) L) : SV P ro ⟨d, .binOp .geq t x y yt, ty, ps, af, gu⟩ f K L :=
  if q : b ≤ a then SV.geqT hx hy q (h1 q) else SV.geqF hx hy (by omega) (h2 (by omega))
end
theorem SV.eqlST {t yt : TypeId} {x y : Operand} {a b : List UInt8} (hx : f.ev x = .string ⟨a.toArray⟩) (hy : f.ev y = .string ⟨b.toArray⟩) (q : a = b) (h : K (.bool true) L) : SV P ro ⟨d, .binOp .eql t x y yt, ty, ps, af, gu⟩ f K L := by
  refine SV.eqlS hx hy ?_
  rw [decide_eq_true q]; exact h
theorem SV.eqlSF {t yt : TypeId} {x y : Operand} {a b : List UInt8} (hx : f.ev x = .string ⟨a.toArray⟩) (hy : f.ev y = .string ⟨b.toArray⟩) (q : a ≠ b) (h : K (.bool false) L) : SV P ro ⟨d, .binOp .eql t x y yt, ty, ps, af, gu⟩ f K L := by
  refine SV.eqlS hx hy ?_
  rw [decide_eq_false q]; exact h
theorem SV.neqST {t yt : TypeId} {x y : Operand} {a b : List UInt8} (hx : f.ev x = .string ⟨a.toArray⟩) (hy : f.ev y = .string ⟨b.toArray⟩) (q : a ≠ b) (h : K (.bool true) L) : SV P ro ⟨d, .binOp .neq t x y yt, ty, ps, af, gu⟩ f K L := by
  refine SV.neqS hx hy ?_
  rw [decide_eq_false q]; exact h
theorem SV.neqSF {t yt : TypeId} {x y : Operand} {a b : List UInt8} (hx : f.ev x = .string ⟨a.toArray⟩) (hy : f.ev y = .string ⟨b.toArray⟩) (q : a = b) (h : K (.bool false) L) : SV P ro ⟨d, .binOp .neq t x y yt, ty, ps, af, gu⟩ f K L := by
  refine SV.neqS hx hy ?_
  rw [decide_eq_true q]; exact h
/-- Whether two simple values are equal. -/
def veq (td : TypeDesc) (x y : Value) : Option Bool :=
  match td, x, y with
  | .bool, .bool a, .bool b => some (a == b)
  | .pointer _, .pointer none, .pointer b => some b.isNone
  | .pointer _, .pointer (some _), .pointer none => some false
  | .slice _, .slice none _ _, .slice b _ _ => some b.isNone
  | .slice _, .slice (some _) _ _, .slice none _ _ => some false
  | .map _ _, .map none, .map b => some b.isNone
  | .map _ _, .map (some _), .map none => some false
  | .func _ _ _, .nilFunc, .nilFunc => some true
  | .func _ _ _, .nilFunc, .func _ _ _ => some false
  | .func _ _ _, .func _ _ _, .nilFunc => some false
  | _, _, _ => none
theorem SW.equal1 {t : TypeId} {x y : Value} {td : TypeDesc} {b : Bool} {K : Bool → List HP → Prop} (hs : P.underlying t = some td) (e : ∀ w, (Op.equal t x y).run P w = .ok b w) (h : K b L) : SW P (Op.equal t x y) K L := SW.ok e h
theorem equal_run {t : TypeId} {x y : Value} {td : TypeDesc} {b : Bool} (hs : P.underlying t = some td) (w : World)
    (e : veq td x y = some b) : (Op.equal t x y).run P w = .ok b w := by
  have h1 : (Go.underlying t).run P w = .ok td w := by simp [Go.underlying, Go.program, Sem.run, hs]
  unfold Op.equal
  rw [show Op.maxDepth = 9999 + 1 from rfl, Op.equalIn, Sem.run_bind, h1, Result.andThen_ok]
  unfold veq at e; split at e <;> first | (cases e; done) | (injection e with e; subst e; rfl)
theorem SV.eqlV {t yt : TypeId} {x y : Operand} {u v : Value} {td : TypeDesc} {b : Bool} (hx : f.ev x = u) (hy : f.ev y = v) [hs : TU P t td]
    (e : veq td u v = some b) (h : K (.bool b) L) :
    SV P ro ⟨d, .binOp .eql t x y yt, ty, ps, af, gu⟩ f K L := by
  refine SV.bin hx hy (fun w => ?_) h
  have := equal_run hs.h w e
  unfold veq at e; split at e <;> first | (cases e; done) | (simp only [eqGuard, Go.binOp]; simp [Sem.run_bind, this, Result.andThen_ok])
theorem SV.neqV {t yt : TypeId} {x y : Operand} {u v : Value} {td : TypeDesc} {b : Bool} (hx : f.ev x = u) (hy : f.ev y = v) [hs : TU P t td]
    (e : veq td u v = some b) (h : K (.bool (!b)) L) :
    SV P ro ⟨d, .binOp .neq t x y yt, ty, ps, af, gu⟩ f K L := by
  refine SV.bin hx hy (fun w => ?_) h
  have := equal_run hs.h w e
  unfold veq at e; split at e <;> first | (cases e; done) | (simp only [eqGuard, Go.binOp]; simp [Sem.run_bind, this, Result.andThen_ok])
theorem WO.gT {N : Nat} {all : Array Oper} {rest : List Oper} {Q : Post} {op : Op} {j t : Nat} {b : Bool} (hd : dOk N d = true) (hj : (all[j]?).bind (·.dst) = some t) (ht : Nat.blt t N = true) (hb : f.v t = .bool b)
    (h : WO P N ro all (⟨d, op, ty, ps, af, none⟩ :: rest) Q f L) : WO P N ro all (⟨d, op, ty, ps, af, some (j, b)⟩ :: rest) Q f L :=
  WO.guard hd hj ht hb (fun _ => h) (fun h => absurd rfl h)
theorem WO.gF {N : Nat} {all : Array Oper} {rest : List Oper} {Q : Post} {op : Op} {j t : Nat} {b want : Bool} (hd : dOk N d = true) (hj : (all[j]?).bind (·.dst) = some t) (ht : Nat.blt t N = true) (hb : f.v t = .bool b) (hw : (b == want) = false)
    (h : WO P N ro all rest Q (f.putO d undef) L) : WO P N ro all (⟨d, op, ty, ps, af, some (j, want)⟩ :: rest) Q f L :=
  WO.guard hd hj ht hb (fun e => by subst e; simp at hw) (fun _ => h)
/-- A guarded operation whose guard was itself off. -/
theorem WO.gU {N : Nat} {all : Array Oper} {rest : List Oper} {Q : Post} {op : Op} {j t : Nat} {want : Bool} (hd : dOk N d = true) (hj : (all[j]?).bind (·.dst) = some t) (ht : Nat.blt t N = true) (hb : f.v t = undef)
    (h : WO P N ro all rest Q (f.putO d undef) L) : WO P N ro all (⟨d, op, ty, ps, af, some (j, want)⟩ :: rest) Q f L := by
  have hy : ∀ a, Rep N a f → yielded all a.tmps j = none := by
    intro a r
    have ht' : t < a.tmps.size := by rw [r.size]; simpa [Nat.blt_eq] using ht
    have := r.get t
    rw [Array.getD_eq_getD_getElem?, Array.getElem?_eq_getElem ht', Option.getD_some, hb] at this
    simp only [yielded, hj, Option.bind_some, Array.getElem?_eq_getElem ht', this]; rfl
  intro Fr w a r z
  have hw : ((none : Option Bool) == some want) = false := rfl
  simp only [wpL, Region.wanted, hy a r, hw]
  refine ⟨fun _ _ => trivial, wpL_mono ?_ _ _ _ (h Fr w _ (r.put hd undef) z)⟩
  rintro e a1 w1 ⟨f1, L1, r1, q, y, kp, kt⟩
  exact ⟨f1, L1, r1, q, y, kp, (Kept.right kt).trans (Kept.left (Kept.putO f _ _ (fun _ h => h)))⟩
end

/-- Goes on with code and operations as far as no choice is to be made; a test that omega decides is no choice. -/
theorem go {p q : Prop} (k : q) (h : Hold q → p := by
    intro hgo
    repeat (first
      | (refine WO.sv rfl ?_; first
        | (refine SV.isMove ?_; first
            | refine SV.move (v := .int _ _) rfl ?_
            | refine SV.move (v := .pointer _) rfl ?_
            | refine SV.move (v := .slice _ _ _) rfl ?_
            | refine SV.move (v := .bool _) rfl ?_
            | refine SV.move (v := .string _) rfl ?_
            | refine SV.move (v := .agg _) rfl ?_
            | refine SV.move (v := .map _) rfl ?_
            | refine SV.move (v := .iface _ _) rfl ?_
            | refine SV.move rfl ?_)
        | refine SV.fieldAddr rfl ?_
        | (refine SV.isLd ?_; first
            | refine SV.load rfl rfl ?_
            | refine SV.loadN rfl nl le0 ?_)
        | (refine SV.isBin ?_; first
            | refine SV.add rfl rfl wI ?_
            | refine SV.sub rfl rfl wI ?_
            | refine SV.eqlT rfl rfl dT ?_
            | refine SV.neqT rfl rfl dT ?_
            | refine SV.lssT rfl rfl dT ?_
            | refine SV.leqT rfl rfl dT ?_
            | refine SV.gtrT rfl rfl dT ?_
            | refine SV.geqT rfl rfl dT ?_
            | refine SV.eqlF rfl rfl dT ?_
            | refine SV.neqF rfl rfl dT ?_
            | refine SV.lssF rfl rfl dT ?_
            | refine SV.leqF rfl rfl dT ?_
            | refine SV.gtrF rfl rfl dT ?_
            | refine SV.geqF rfl rfl dT ?_
            | refine SV.mul rfl rfl wI ?_
            | refine SV.quo rfl rfl nz wQ ?_
            | refine SV.rem rfl rfl nz wR ?_
            | refine SV.eqlV rfl rfl rfl ?_
            | refine SV.neqV rfl rfl rfl ?_)
        | (refine SV.isAsn ?_; first
            | refine SV.assign (v := .int _ _) rfl ?_
            | refine SV.assign (v := .pointer _) rfl ?_
            | refine SV.assign (v := .slice _ _ _) rfl ?_
            | refine SV.assign (v := .bool _) rfl ?_
            | refine SV.assign (v := .string _) rfl ?_
            | refine SV.assign (v := .agg _) rfl ?_
            | refine SV.assign (v := .map _) rfl ?_
            | refine SV.assign (v := .iface _ _) rfl ?_
            | refine SV.assign rfl ?_)
        | (refine SV.isBi ?_; first
            | refine SV.len_slice rfl ?_
            | refine SV.len_str rfl ?_
            | refine SV.min2 rfl rfl rfl ?_
            | refine SV.max2 rfl rfl rfl ?_)
        | (refine SV.isIdx ?_; first
            | refine SV.indexAddr rfl rfl iT iT ?_
            | refine SV.indexAddrA rfl rfl iT iT ?_)
        | (refine SV.isPick ?_; first
            | refine SV.pick (v := .bool _) rfl rfl ?_
            | refine SV.pick (v := .int _ _) rfl rfl ?_
            | refine SV.pick rfl rfl ?_)
        | refine SV.extract rfl rfl ?_
        | refine SV.nilCheck rfl ?_
        | (refine SV.isConv ?_; first
            | refine SV.convInt rfl wI ?_)
        | (refine SV.isFld ?_; first
            | refine SV.field rfl rfl ?_
            | refine SV.fieldN rfl nl ?_)
        | (refine SV.isSt ?_; first
            | refine SV.store rfl rfl cel rfl rfl rfl frz le0 nl ?_)
        | (refine SV.isBuild ?_; first
            | refine SV.build parts rfl nl ?_)
        | refine SV.not rfl rfl ?_
        | refine SV.alloc ?_
        | (refine SV.isBox ?_; first
            | refine SV.box (v := .agg (List.toArray _)) rfl cel ?_
            | refine SV.box rfl cel ?_))
      | refine WO.nil ?_
      | refine WO.gT rfl rfl rfl rfl ?_
      | refine WO.gF rfl rfl rfl rfl rfl ?_
      | refine WO.gU rfl rfl rfl rfl ?_
      | refine W.seq (W.region ?_)
      | refine W.seq ?_
      | refine W.region ?_
      | refine W.block ?_
      | refine W.skip ?_
      | refine W.label ?_
      | refine W.exit ?_
      | refine W.iftrue rfl ?_
      | refine W.iffalse rfl ?_
      | refine W.ret ?_
      | (refine DA.q (v := ?_) rfl rfl ?_ ?_; rotate_left; (first
        | (refine SV.isMove ?_; first
            | refine SV.move (v := .int _ _) rfl ?_
            | refine SV.move (v := .pointer _) rfl ?_
            | refine SV.move (v := .slice _ _ _) rfl ?_
            | refine SV.move (v := .bool _) rfl ?_
            | refine SV.move (v := .string _) rfl ?_
            | refine SV.move (v := .agg _) rfl ?_
            | refine SV.move (v := .map _) rfl ?_
            | refine SV.move (v := .iface _ _) rfl ?_
            | refine SV.move rfl ?_)
        | refine SV.fieldAddr rfl ?_
        | (refine SV.isLd ?_; first
            | refine SV.load rfl rfl ?_
            | refine SV.loadN rfl nl le0 ?_)
        | (refine SV.isBin ?_; first
            | refine SV.add rfl rfl wI ?_
            | refine SV.sub rfl rfl wI ?_
            | refine SV.eqlT rfl rfl dT ?_
            | refine SV.neqT rfl rfl dT ?_
            | refine SV.lssT rfl rfl dT ?_
            | refine SV.leqT rfl rfl dT ?_
            | refine SV.gtrT rfl rfl dT ?_
            | refine SV.geqT rfl rfl dT ?_
            | refine SV.eqlF rfl rfl dT ?_
            | refine SV.neqF rfl rfl dT ?_
            | refine SV.lssF rfl rfl dT ?_
            | refine SV.leqF rfl rfl dT ?_
            | refine SV.gtrF rfl rfl dT ?_
            | refine SV.geqF rfl rfl dT ?_
            | refine SV.mul rfl rfl wI ?_
            | refine SV.quo rfl rfl nz wQ ?_
            | refine SV.rem rfl rfl nz wR ?_
            | refine SV.eqlV rfl rfl rfl ?_
            | refine SV.neqV rfl rfl rfl ?_)
        | (refine SV.isAsn ?_; first
            | refine SV.assign (v := .int _ _) rfl ?_
            | refine SV.assign (v := .pointer _) rfl ?_
            | refine SV.assign (v := .slice _ _ _) rfl ?_
            | refine SV.assign (v := .bool _) rfl ?_
            | refine SV.assign (v := .string _) rfl ?_
            | refine SV.assign (v := .agg _) rfl ?_
            | refine SV.assign (v := .map _) rfl ?_
            | refine SV.assign (v := .iface _ _) rfl ?_
            | refine SV.assign rfl ?_)
        | (refine SV.isBi ?_; first
            | refine SV.len_slice rfl ?_
            | refine SV.len_str rfl ?_
            | refine SV.min2 rfl rfl rfl ?_
            | refine SV.max2 rfl rfl rfl ?_)
        | (refine SV.isIdx ?_; first
            | refine SV.indexAddr rfl rfl iT iT ?_
            | refine SV.indexAddrA rfl rfl iT iT ?_)
        | (refine SV.isPick ?_; first
            | refine SV.pick (v := .bool _) rfl rfl ?_
            | refine SV.pick (v := .int _ _) rfl rfl ?_
            | refine SV.pick rfl rfl ?_)
        | refine SV.extract rfl rfl ?_
        | refine SV.nilCheck rfl ?_
        | (refine SV.isConv ?_; first
            | refine SV.convInt rfl wI ?_)
        | (refine SV.isFld ?_; first
            | refine SV.field rfl rfl ?_
            | refine SV.fieldN rfl nl ?_)
        | (refine SV.isSt ?_; first
            | refine SV.store rfl rfl cel rfl rfl rfl frz le0 nl ?_)
        | (refine SV.isBuild ?_; first
            | refine SV.build parts rfl nl ?_)
        | refine SV.not rfl rfl ?_); exact eqq)
      | refine DA.nil ?_
      | refine DA.off rfl ?_
      | (refine DB.q (v := ?_) rfl rfl hl ?_ ?_; rotate_left; (first
        | (refine SV.isMove ?_; first
            | refine SV.move (v := .int _ _) rfl ?_
            | refine SV.move (v := .pointer _) rfl ?_
            | refine SV.move (v := .slice _ _ _) rfl ?_
            | refine SV.move (v := .bool _) rfl ?_
            | refine SV.move (v := .string _) rfl ?_
            | refine SV.move (v := .agg _) rfl ?_
            | refine SV.move (v := .map _) rfl ?_
            | refine SV.move (v := .iface _ _) rfl ?_
            | refine SV.move rfl ?_)
        | refine SV.fieldAddr rfl ?_
        | (refine SV.isLd ?_; first
            | refine SV.load rfl rfl ?_
            | refine SV.loadN rfl nl le0 ?_)
        | (refine SV.isBin ?_; first
            | refine SV.add rfl rfl wI ?_
            | refine SV.sub rfl rfl wI ?_
            | refine SV.eqlT rfl rfl dT ?_
            | refine SV.neqT rfl rfl dT ?_
            | refine SV.lssT rfl rfl dT ?_
            | refine SV.leqT rfl rfl dT ?_
            | refine SV.gtrT rfl rfl dT ?_
            | refine SV.geqT rfl rfl dT ?_
            | refine SV.eqlF rfl rfl dT ?_
            | refine SV.neqF rfl rfl dT ?_
            | refine SV.lssF rfl rfl dT ?_
            | refine SV.leqF rfl rfl dT ?_
            | refine SV.gtrF rfl rfl dT ?_
            | refine SV.geqF rfl rfl dT ?_
            | refine SV.mul rfl rfl wI ?_
            | refine SV.quo rfl rfl nz wQ ?_
            | refine SV.rem rfl rfl nz wR ?_
            | refine SV.eqlV rfl rfl rfl ?_
            | refine SV.neqV rfl rfl rfl ?_)
        | (refine SV.isAsn ?_; first
            | refine SV.assign (v := .int _ _) rfl ?_
            | refine SV.assign (v := .pointer _) rfl ?_
            | refine SV.assign (v := .slice _ _ _) rfl ?_
            | refine SV.assign (v := .bool _) rfl ?_
            | refine SV.assign (v := .string _) rfl ?_
            | refine SV.assign (v := .agg _) rfl ?_
            | refine SV.assign (v := .map _) rfl ?_
            | refine SV.assign (v := .iface _ _) rfl ?_
            | refine SV.assign rfl ?_)
        | (refine SV.isBi ?_; first
            | refine SV.len_slice rfl ?_
            | refine SV.len_str rfl ?_
            | refine SV.min2 rfl rfl rfl ?_
            | refine SV.max2 rfl rfl rfl ?_)
        | (refine SV.isIdx ?_; first
            | refine SV.indexAddr rfl rfl iT iT ?_
            | refine SV.indexAddrA rfl rfl iT iT ?_)
        | (refine SV.isPick ?_; first
            | refine SV.pick (v := .bool _) rfl rfl ?_
            | refine SV.pick (v := .int _ _) rfl rfl ?_
            | refine SV.pick rfl rfl ?_)
        | refine SV.extract rfl rfl ?_
        | refine SV.nilCheck rfl ?_
        | (refine SV.isConv ?_; first
            | refine SV.convInt rfl wI ?_)
        | (refine SV.isFld ?_; first
            | refine SV.field rfl rfl ?_
            | refine SV.fieldN rfl nl ?_)
        | (refine SV.isSt ?_; first
            | refine SV.store rfl rfl cel rfl rfl rfl frz le0 nl ?_)
        | (refine SV.isBuild ?_; first
            | refine SV.build parts rfl nl ?_)
        | refine SV.not rfl rfl ?_); exact eqq)
      | refine DB.nil hl ?_
      | refine DB.off rfl ?_
      )
    exact hgo.out) : p := h ⟨k⟩
/-- The same; each test yields what it decides. -/
theorem goD {p q : Prop} (k : q) (h : Hold q → p := by
    intro hgo
    repeat (first
      | (refine WO.sv rfl ?_; first
        | (refine SV.isMove ?_; first
            | refine SV.move (v := .int _ _) rfl ?_
            | refine SV.move (v := .pointer _) rfl ?_
            | refine SV.move (v := .slice _ _ _) rfl ?_
            | refine SV.move (v := .bool _) rfl ?_
            | refine SV.move (v := .string _) rfl ?_
            | refine SV.move (v := .agg _) rfl ?_
            | refine SV.move (v := .map _) rfl ?_
            | refine SV.move (v := .iface _ _) rfl ?_
            | refine SV.move rfl ?_)
        | refine SV.fieldAddr rfl ?_
        | (refine SV.isLd ?_; first
            | refine SV.load rfl rfl ?_
            | refine SV.loadN rfl nl le0 ?_)
        | (refine SV.isBin ?_; first
            | refine SV.add rfl rfl wI ?_
            | refine SV.sub rfl rfl wI ?_
            | refine SV.eql rfl rfl ?_
            | refine SV.neq rfl rfl ?_
            | refine SV.lss rfl rfl ?_
            | refine SV.leq rfl rfl ?_
            | refine SV.gtr rfl rfl ?_
            | refine SV.geq rfl rfl ?_
            | refine SV.mul rfl rfl wI ?_
            | refine SV.quo rfl rfl nz wQ ?_
            | refine SV.rem rfl rfl nz wR ?_
            | refine SV.eqlS rfl rfl ?_
            | refine SV.neqS rfl rfl ?_
            | refine SV.eqlV rfl rfl rfl ?_
            | refine SV.neqV rfl rfl rfl ?_)
        | (refine SV.isAsn ?_; first
            | refine SV.assign (v := .int _ _) rfl ?_
            | refine SV.assign (v := .pointer _) rfl ?_
            | refine SV.assign (v := .slice _ _ _) rfl ?_
            | refine SV.assign (v := .bool _) rfl ?_
            | refine SV.assign (v := .string _) rfl ?_
            | refine SV.assign (v := .agg _) rfl ?_
            | refine SV.assign (v := .map _) rfl ?_
            | refine SV.assign (v := .iface _ _) rfl ?_
            | refine SV.assign rfl ?_)
        | (refine SV.isBi ?_; first
            | refine SV.len_slice rfl ?_
            | refine SV.len_str rfl ?_
            | refine SV.min2 rfl rfl rfl ?_
            | refine SV.max2 rfl rfl rfl ?_)
        | (refine SV.isIdx ?_; first
            | refine SV.indexAddr rfl rfl iT iT ?_
            | refine SV.indexAddrA rfl rfl iT iT ?_)
        | (refine SV.isPick ?_; first
            | refine SV.pick (v := .bool _) rfl rfl ?_
            | refine SV.pick (v := .int _ _) rfl rfl ?_
            | refine SV.pick rfl rfl ?_)
        | refine SV.extract rfl rfl ?_
        | refine SV.nilCheck rfl ?_
        | (refine SV.isConv ?_; first
            | refine SV.convInt rfl wI ?_)
        | (refine SV.isFld ?_; first
            | refine SV.field rfl rfl ?_
            | refine SV.fieldN rfl nl ?_)
        | (refine SV.isSt ?_; first
            | refine SV.store rfl rfl cel rfl rfl rfl frz le0 nl ?_)
        | (refine SV.isBuild ?_; first
            | refine SV.build parts rfl nl ?_)
        | refine SV.not rfl rfl ?_
        | refine SV.alloc ?_
        | (refine SV.isBox ?_; first
            | refine SV.box (v := .agg (List.toArray _)) rfl cel ?_
            | refine SV.box rfl cel ?_))
      | refine WO.nil ?_
      | refine WO.gT rfl rfl rfl rfl ?_
      | refine WO.gF rfl rfl rfl rfl rfl ?_
      | refine WO.gU rfl rfl rfl rfl ?_
      | refine W.seq (W.region ?_)
      | refine W.seq ?_
      | refine W.region ?_
      | refine W.block ?_
      | refine W.skip ?_
      | refine W.label ?_
      | refine W.exit ?_
      | refine W.iftrue rfl ?_
      | refine W.iffalse rfl ?_
      | refine W.ret ?_
      | (refine DA.q (v := ?_) rfl rfl ?_ ?_; rotate_left; (first
        | (refine SV.isMove ?_; first
            | refine SV.move (v := .int _ _) rfl ?_
            | refine SV.move (v := .pointer _) rfl ?_
            | refine SV.move (v := .slice _ _ _) rfl ?_
            | refine SV.move (v := .bool _) rfl ?_
            | refine SV.move (v := .string _) rfl ?_
            | refine SV.move (v := .agg _) rfl ?_
            | refine SV.move (v := .map _) rfl ?_
            | refine SV.move (v := .iface _ _) rfl ?_
            | refine SV.move rfl ?_)
        | refine SV.fieldAddr rfl ?_
        | (refine SV.isLd ?_; first
            | refine SV.load rfl rfl ?_
            | refine SV.loadN rfl nl le0 ?_)
        | (refine SV.isBin ?_; first
            | refine SV.add rfl rfl wI ?_
            | refine SV.sub rfl rfl wI ?_
            | refine SV.eql rfl rfl ?_
            | refine SV.neq rfl rfl ?_
            | refine SV.lss rfl rfl ?_
            | refine SV.leq rfl rfl ?_
            | refine SV.gtr rfl rfl ?_
            | refine SV.geq rfl rfl ?_
            | refine SV.mul rfl rfl wI ?_
            | refine SV.quo rfl rfl nz wQ ?_
            | refine SV.rem rfl rfl nz wR ?_
            | refine SV.eqlS rfl rfl ?_
            | refine SV.neqS rfl rfl ?_
            | refine SV.eqlV rfl rfl rfl ?_
            | refine SV.neqV rfl rfl rfl ?_)
        | (refine SV.isAsn ?_; first
            | refine SV.assign (v := .int _ _) rfl ?_
            | refine SV.assign (v := .pointer _) rfl ?_
            | refine SV.assign (v := .slice _ _ _) rfl ?_
            | refine SV.assign (v := .bool _) rfl ?_
            | refine SV.assign (v := .string _) rfl ?_
            | refine SV.assign (v := .agg _) rfl ?_
            | refine SV.assign (v := .map _) rfl ?_
            | refine SV.assign (v := .iface _ _) rfl ?_
            | refine SV.assign rfl ?_)
        | (refine SV.isBi ?_; first
            | refine SV.len_slice rfl ?_
            | refine SV.len_str rfl ?_
            | refine SV.min2 rfl rfl rfl ?_
            | refine SV.max2 rfl rfl rfl ?_)
        | (refine SV.isIdx ?_; first
            | refine SV.indexAddr rfl rfl iT iT ?_
            | refine SV.indexAddrA rfl rfl iT iT ?_)
        | (refine SV.isPick ?_; first
            | refine SV.pick (v := .bool _) rfl rfl ?_
            | refine SV.pick (v := .int _ _) rfl rfl ?_
            | refine SV.pick rfl rfl ?_)
        | refine SV.extract rfl rfl ?_
        | refine SV.nilCheck rfl ?_
        | (refine SV.isConv ?_; first
            | refine SV.convInt rfl wI ?_)
        | (refine SV.isFld ?_; first
            | refine SV.field rfl rfl ?_
            | refine SV.fieldN rfl nl ?_)
        | (refine SV.isSt ?_; first
            | refine SV.store rfl rfl cel rfl rfl rfl frz le0 nl ?_)
        | (refine SV.isBuild ?_; first
            | refine SV.build parts rfl nl ?_)
        | refine SV.not rfl rfl ?_); exact eqq)
      | refine DA.nil ?_
      | refine DA.off rfl ?_
      | (refine DB.q (v := ?_) rfl rfl hl ?_ ?_; rotate_left; (first
        | (refine SV.isMove ?_; first
            | refine SV.move (v := .int _ _) rfl ?_
            | refine SV.move (v := .pointer _) rfl ?_
            | refine SV.move (v := .slice _ _ _) rfl ?_
            | refine SV.move (v := .bool _) rfl ?_
            | refine SV.move (v := .string _) rfl ?_
            | refine SV.move (v := .agg _) rfl ?_
            | refine SV.move (v := .map _) rfl ?_
            | refine SV.move (v := .iface _ _) rfl ?_
            | refine SV.move rfl ?_)
        | refine SV.fieldAddr rfl ?_
        | (refine SV.isLd ?_; first
            | refine SV.load rfl rfl ?_
            | refine SV.loadN rfl nl le0 ?_)
        | (refine SV.isBin ?_; first
            | refine SV.add rfl rfl wI ?_
            | refine SV.sub rfl rfl wI ?_
            | refine SV.eql rfl rfl ?_
            | refine SV.neq rfl rfl ?_
            | refine SV.lss rfl rfl ?_
            | refine SV.leq rfl rfl ?_
            | refine SV.gtr rfl rfl ?_
            | refine SV.geq rfl rfl ?_
            | refine SV.mul rfl rfl wI ?_
            | refine SV.quo rfl rfl nz wQ ?_
            | refine SV.rem rfl rfl nz wR ?_
            | refine SV.eqlS rfl rfl ?_
            | refine SV.neqS rfl rfl ?_
            | refine SV.eqlV rfl rfl rfl ?_
            | refine SV.neqV rfl rfl rfl ?_)
        | (refine SV.isAsn ?_; first
            | refine SV.assign (v := .int _ _) rfl ?_
            | refine SV.assign (v := .pointer _) rfl ?_
            | refine SV.assign (v := .slice _ _ _) rfl ?_
            | refine SV.assign (v := .bool _) rfl ?_
            | refine SV.assign (v := .string _) rfl ?_
            | refine SV.assign (v := .agg _) rfl ?_
            | refine SV.assign (v := .map _) rfl ?_
            | refine SV.assign (v := .iface _ _) rfl ?_
            | refine SV.assign rfl ?_)
        | (refine SV.isBi ?_; first
            | refine SV.len_slice rfl ?_
            | refine SV.len_str rfl ?_
            | refine SV.min2 rfl rfl rfl ?_
            | refine SV.max2 rfl rfl rfl ?_)
        | (refine SV.isIdx ?_; first
            | refine SV.indexAddr rfl rfl iT iT ?_
            | refine SV.indexAddrA rfl rfl iT iT ?_)
        | (refine SV.isPick ?_; first
            | refine SV.pick (v := .bool _) rfl rfl ?_
            | refine SV.pick (v := .int _ _) rfl rfl ?_
            | refine SV.pick rfl rfl ?_)
        | refine SV.extract rfl rfl ?_
        | refine SV.nilCheck rfl ?_
        | (refine SV.isConv ?_; first
            | refine SV.convInt rfl wI ?_)
        | (refine SV.isFld ?_; first
            | refine SV.field rfl rfl ?_
            | refine SV.fieldN rfl nl ?_)
        | (refine SV.isSt ?_; first
            | refine SV.store rfl rfl cel rfl rfl rfl frz le0 nl ?_)
        | (refine SV.isBuild ?_; first
            | refine SV.build parts rfl nl ?_)
        | refine SV.not rfl rfl ?_); exact eqq)
      | refine DB.nil hl ?_
      | refine DB.off rfl ?_
      )
    exact hgo.out) : p := h ⟨k⟩
/-- Control alone: opens no region. -/
theorem goC {p q : Prop} (k : q) (h : Hold q → p := by
    intro hgo
    repeat (first
      | refine WO.nil ?_
      | refine W.seq ?_
      | refine W.block ?_
      | refine W.skip ?_
      | refine W.label ?_
      | refine W.exit ?_
      | refine W.iftrue rfl ?_
      | refine W.iffalse rfl ?_
      )
    exact hgo.out) : p := h ⟨k⟩
end Go.SL
