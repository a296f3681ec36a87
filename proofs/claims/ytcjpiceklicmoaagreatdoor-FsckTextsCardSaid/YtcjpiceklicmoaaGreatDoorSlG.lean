/- SL 16: calls of functions without a body; sync/atomic. Generic in the program. -/
import Derived.Test.YtcjpiceklicmoaaGreatDoorSlF
import Derived.Laws.LoneSync
namespace Go.SL
set_option linter.unusedVariables false
set_option linter.unusedSimpArgs false

section
variable {P : Program} {ro : Option Nat} {f : Frm} {L : List HP} {d : Option Nat} {ty : TypeId} {ps : String} {af : Array Edge} {gu : Option (Nat × Bool)} {K : Value → List HP → Prop}
theorem SV.ext {g : FuncId} {fn : Func} {e : Array Value → Sem Value} {as : List Operand} {ts : Array TypeId} {vs : List Value} (hf : P.funcs[g]? = some fn) (hname : (fn.name == "runtime.NumGoroutine") = false) (hb : fn.body.isNone = true)
    (hn : Extern.findNext fn = none) (he : Extern.find fn = some e) (hv : as.map f.ev = vs) (h : SW P (e vs.toArray) K L) : SV P ro ⟨d, .call { callee := .value (.func g), args := as.toArray, argTypes := ts }, ty, ps, af, gu⟩ f K L := by
  have hv' : as.toArray.map f.ev = vs.toArray := by rw [← hv]; simp
  unfold SV
  rw [Oper.semAt_eq _ _ _ (by intro c h; cases h)]
  intro Fr w x
  obtain ⟨r, w', L', a, b, c, q⟩ := h Fr w x
  have h1 : ¬ fn.name = "runtime.NumGoroutine" := by simpa using hname
  have h2 : fn.body = none := by simpa using hb
  refine ⟨.value r, w', L', ?_, ⟨r, .inl rfl, b⟩, c, q⟩
  have e0 : (#[] ++ vs.toArray ++ #[] : Array Value) = vs.toArray := by simp
  have key : (callFunc g vs.toArray).run P w = .ok (.value r) w' := by
    have hp : (Go.program).run P w = .ok P w := by simp [Go.program, Sem.run]
    have hm : ∀ m, (Go.mark m).run P w = .ok () w := fun m => by simp [Go.mark, Sem.run]
    unfold callFunc
    simp only [Sem.run_bind, hp, Result.andThen_ok, hf, h1, h2, beq_iff_eq, Option.isNone_none, hn, he, hm, if_true, if_false, a, bind_pure_comp, Sem.run_map, Sem.run_pure]
  simp only [execOp, resolve, hv', Frm.ev, Deferred.ofValue]
  simp only [bind, Sem.bind, pure, invoke]
  rw [e0]; exact key

theorem SW.atomLoad {k : IntKind} {b off : Nat} {cs : Array Value} {T : TypeId} {fr : Nat × Nat} {x : Int} {K : Value → List HP → Prop} (r : Rd L b (.cells cs T fr)) (hc : cs[off]? = some (.int k x)) (h : K (.int k x) L) :
    SW P (Extern.Atomic.loadT (.int k) #[.pointer (some ⟨b, off, none⟩)]) K L := by
  change SW P (do Extern.Atomic.read (.int k) (← asAddr (.pointer (some ⟨b, off, none⟩)))) K L
  refine SW.bind (SW.pure ?_)
  unfold Extern.Atomic.read
  refine SW.bind (SW.load r hc ?_ .atomic)
  simp only [if_true]
  exact SW.pure h
theorem SW.atomStore {k : IntKind} {b off : Nat} {cs : Array Value} {T : TypeId} {fr : Nat × Nat} {M : Obj → List HP} {x : Int} {K : Value → List HP → Prop} (r : Wr L b (.cells cs T fr) M) (ho : off < cs.size) (hf : (fr.1 ≤ off && off < fr.2) = false)
    (h : K (.tuple #[]) (M (.cells (cs.setIfInBounds off (.int k x)) T fr))) : SW P (Extern.Atomic.storeT #[.pointer (some ⟨b, off, none⟩), .int k x]) K L := by
  change SW P (do Go.store (← asAddr (.pointer (some ⟨b, off, none⟩))) (.int k x) .atomic; Pure.pure Extern.Atomic.none_) K L
  refine SW.bind (SW.pure (SW.bind (SW.store r rfl ho hf ?_ .atomic)))
  exact SW.pure h
theorem SW.atomAdd {k : IntKind} {b off : Nat} {cs : Array Value} {T : TypeId} {fr : Nat × Nat} {M : Obj → List HP} {x y : Int} {K : Value → List HP → Prop} (r : Wr L b (.cells cs T fr) M) (r' : Rd L b (.cells cs T fr)) (hc : cs[off]? = some (.int k x)) (hf : (fr.1 ≤ off && off < fr.2) = false)
    (h : K (.int k (k.wrap (x + y))) (M (.cells (cs.setIfInBounds off (.int k (k.wrap (x + y)))) T fr))) : SW P (Extern.Atomic.update (Op.intArith .add) k true #[.pointer (some ⟨b, off, none⟩), .int k y]) K L := by
  have ho : off < cs.size := (Array.getElem?_eq_some_iff.1 hc).1
  unfold Extern.Atomic.update
  refine SW.bind (SW.pure ?_)
  refine SW.bind ?_
  unfold Extern.Atomic.read
  refine SW.bind (SW.load r' hc ?_ .atomic)
  simp only [if_true]
  refine SW.pure ?_
  refine SW.bind (SW.pure (SW.bind (SW.pure ?_)))
  refine SW.bind ?_
  refine SW.ok (a := .int k (k.wrap (x + y))) (fun w => by simp [Op.intArith]) ?_
  refine SW.bind (SW.store r rfl ho hf ?_ .atomic)
  exact SW.pure h
theorem SV.atomLoad {g : FuncId} {fn : Func} {k : IntKind} {as : List Operand} {ts : Array TypeId} {b off : Nat} {l : List Value} {T : TypeId} {fr : Nat × Nat} {x : Int} (hf : P.funcs[g]? = some fn) (hname : (fn.name == "runtime.NumGoroutine") = false) (hb : fn.body.isNone = true)
    (hn : Extern.findNext fn = none) (he : Extern.find fn = some (Extern.Atomic.loadT (.int k))) (hv : as.map f.ev = [.pointer (some ⟨b, off, none⟩)]) [r : Rd L b (.cells l.toArray T fr)] (hc : lget l off = some (.int k x)) (h : K (.int k x) L) :
    SV P ro ⟨d, .call { callee := .value (.func g), args := as.toArray, argTypes := ts }, ty, ps, af, gu⟩ f K L :=
  SV.ext hf hname hb hn he hv (SW.atomLoad r (by rw [lget_eq] at hc; simpa using hc) h)
theorem SV.atomStore {g : FuncId} {fn : Func} {k : IntKind} {as : List Operand} {ts : Array TypeId} {b off : Nat} {l l' : List Value} {T : TypeId} {fr : Nat × Nat} {M : Obj → List HP} {x : Int} (hf : P.funcs[g]? = some fn) (hname : (fn.name == "runtime.NumGoroutine") = false) (hb : fn.body.isNone = true)
    (hn : Extern.findNext fn = none) (he : Extern.find fn = some Extern.Atomic.storeT) (hv : as.map f.ev = [.pointer (some ⟨b, off, none⟩), .int k x]) [r : Wr L b (.cells l.toArray T fr) M] (ho : off < l.length) (hz : fr.2 ≤ fr.1) (hl : NL (lput l off [.int k x]) l')
    (h : K (.tuple #[]) (M (.cells l'.toArray T fr))) : SV P ro ⟨d, .call { callee := .value (.func g), args := as.toArray, argTypes := ts }, ty, ps, af, gu⟩ f K L :=
  SV.ext hf hname hb hn he hv (SW.atomStore r (by simpa using ho) (by simp; omega) (by
    have e : l.toArray.setIfInBounds off (.int k x) = l'.toArray := by rw [← hl, ← putAt_lput l off _ (by simp; omega)]; rfl
    rw [e]; exact h))
theorem SV.atomAdd {g : FuncId} {fn : Func} {k : IntKind} {as : List Operand} {ts : Array TypeId} {b off : Nat} {l l' : List Value} {T : TypeId} {fr : Nat × Nat} {M : Obj → List HP} {x y z : Int} (hf : P.funcs[g]? = some fn) (hname : (fn.name == "runtime.NumGoroutine") = false) (hb : fn.body.isNone = true)
    (hn : Extern.findNext fn = none) (he : Extern.find fn = some (Extern.Atomic.update (Op.intArith .add) k true)) (hv : as.map f.ev = [.pointer (some ⟨b, off, none⟩), .int k y]) [r : Wr L b (.cells l.toArray T fr) M] [r' : Rd L b (.cells l.toArray T fr)] (hc : lget l off = some (.int k x)) (hz : fr.2 ≤ fr.1)
    (hw : k.wrap (x + y) = z) (hl : NL (lput l off [.int k z]) l') (h : K (.int k z) (M (.cells l'.toArray T fr))) : SV P ro ⟨d, .call { callee := .value (.func g), args := as.toArray, argTypes := ts }, ty, ps, af, gu⟩ f K L := by
  have hc' : l.toArray[off]? = some (.int k x) := by rw [lget_eq] at hc; simpa using hc
  have ho : off < l.length := by have := (Array.getElem?_eq_some_iff.1 hc').1; simpa using this
  subst hw
  refine SV.ext hf hname hb hn he hv (SW.atomAdd r r' hc' (by simp; omega) ?_)
  have e : l.toArray.setIfInBounds off (.int k (k.wrap (x + y))) = l'.toArray := by rw [← hl, ← putAt_lput l off _ (by simp; omega)]; rfl
  rw [e]; exact h
end
theorem lput_zero : ∀ (l xs : List Value), xs.length ≤ l.length → lput l 0 xs = xs ++ l.drop xs.length
  | l, [], _ => by cases l <;> rfl
  | [], x :: xs, h => by simp at h
  | a :: l, x :: xs, h => by
    have := lput_zero l xs (by simpa using h)
    simp only [lput, List.length_cons, List.drop_succ_cons, List.cons_append]
    rw [← this]
section
variable {P : Program} {ro : Option Nat} {f : Frm} {L : List HP} {d : Option Nat} {ty : TypeId} {ps : String} {af : Array Edge} {gu : Option (Nat × Bool)} {K : Value → List HP → Prop}
theorem SV.copyP {tS tX e sz : Nat} {x y : Operand} {v : Value} {b n cap m : Nat} {l ys l' : List Value} {T : TypeId} {fr : Nat × Nat} {M : Obj → List HP} (hx : f.ev x = .slice (some ⟨b, 0, none⟩) n cap) (hy : f.ev y = v) [he : TE P tS e sz] (src : SrcK P sz v m ys L) (hc : ys.all isCell = true)
    [r : Wr L b (.cells l.toArray T fr) M] [rm : WrM M b] (hn : n * sz ≤ l.length) (hf : fr.2 ≤ fr.1 ∨ n * sz ≤ fr.1) (hl : ys.take ((min m n) * sz) ++ l.drop ((ys.take ((min m n) * sz)).length) = l') (hle : (ys.take ((min m n) * sz)).length ≤ l.length)
    (hM : M (.cells l.toArray T fr) = L) (h1 : K (.int .i64 (min m n : Nat)) (M (.cells l'.toArray T fr))) : SV P ro ⟨d, .call { callee := .builtin .copy, args := #[x, y], argTypes := #[tS, tX] }, ty, ps, af, gu⟩ f K L := by
  subst hl
  refine SV.copy hx hy src hc (by omega) (by omega) ?_ ?_
  · rw [lput_zero _ _ hle]; exact h1
  · intro e
    rw [e] at h1
    simp only [List.nil_append, List.length_nil, List.drop_zero, hM] at h1
    exact h1
end


theorem bytes_strL {P : Program} {w : World} {a : Addr} {n cap : Nat} {bs : List UInt8} (h : (loadCells a n).run P w = .ok (bs.map u8V).toArray w) :
    (Conv.bytesToString (.slice (some a) n cap)).run P w = .ok (.string ⟨bs.toArray⟩) w := by
  have h1 := run_bytesToString (P := P) w a n cap (bs.map fun c => (c.toNat : Int)) (by rw [h]; congr 2; simp [u8V])
  rw [h1]
  congr 2
  have key : ∀ (bs : List UInt8) (s : ByteArray), (bs.map fun c => (c.toNat : Int)).foldl (fun r n => r.push (UInt8.ofNat n.toNat)) s = ⟨(s.data.toList ++ bs).toArray⟩ := by
    intro bs
    induction bs with
    | nil => intro s; apply ByteArray.ext; simp
    | cons c bs ih =>
      intro s
      simp only [List.map_cons, List.foldl_cons]
      rw [ih]
      apply ByteArray.ext
      apply Array.toList_inj.1
      simp [ByteArray.push]
  rw [key]; rfl
section
variable {P : Program} {ro : Option Nat} {f : Frm} {L : List HP} {d : Option Nat} {ty : TypeId} {ps : String} {af : Array Edge} {gu : Option (Nat × Bool)} {K : Value → List HP → Prop}
/-- Bytes that can be read, as a string. -/
theorem SV.toStrR {s u e : TypeId} {x : Operand} {a : Option Addr} {n c : Nat} {bs : List UInt8} (hx : f.ev x = .slice a n c) [hs : TU P s (.slice e)] [he : TU P e (.int .u8)] [hu : TU P u .string] (r : RdS 1 a n (bs.map u8V) L)
    (h : K (.string ⟨bs.toArray⟩) L) : SV P ro ⟨d, .convert s u x, ty, ps, af, gu⟩ f K L := by
  refine (SV.val (Go.convert s u (f.ev x)) (by intro c h; cases h) rfl ?_)
  rw [hx]
  refine SW.bind (SW.underlying hs.h (SW.bind (SW.underlying hu.h (SW.bind (SW.underlying he.h ?_)))))
  refine SW.runs (fun Fr w y => ?_) h
  cases a with
  | none =>
    have h0 : n = 0 := Classical.byContradiction fun h0 => by obtain ⟨b, off, e⟩ := r.at h0; cases e
    have : bs = [] := by have := r.len; rw [h0] at this; simpa using this
    subst this; rfl
  | some a =>
    have h2 := (r.src (P := P) (c := c)).2 Fr w y
    simp only [Builtin.firstCells, Nat.mul_one] at h2
    exact bytes_strL h2
end
end Go.SL
