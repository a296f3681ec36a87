/- SL 7: calls: of functions, of builtins; cuts of slices and strings; bytes and strings. Generic in the program. -/
import Derived.Test.YtcjpiceklicmoaaGreatDoorSl6
namespace Go.SL
set_option linter.unusedVariables false
set_option linter.unusedSimpArgs false

section
variable {P : Program} {tS tX E sz by_ : Nat} {tsz : Array TypeId} {ty : TypeId} {z s x : Value} {n m : Nat} {xs ys : List Value} {L R : List HP} {K : Value → List HP → Prop}
theorem SW.append (h0 : tsz[0]? = some tS) (h1 : tsz[1]? = some tX) (he : elemOf P tS = some (E, sz)) (hb : tyBytes P E = some by_) (hz : tyZero P E = some z) (hzs : z.cells.size = sz) (hx : apTy P tX = true)
    (t : Tk L (Own E sz s n xs) R) (src : Src P sz x m ys R) (hy : ys.length = m * sz) (hc : ys.all isCell = true) (hbig : (2 * (n + m) + 192) * by_ ≤ 2 ^ 48) (h2 : by_ ≠ 0 ∨ n + m ≤ 2 ^ 62)
    (h : ∀ a c, (n + m ≠ 0 → ∃ b, a = some ⟨b, 0, none⟩) → K (.slice a (n + m) c) (Own E sz (.slice a (n + m) c) (n + m) (xs ++ ys) :: R)) : SW P (Builtin.append_ tsz ty #[s, x]) K L := by
  intro Fr w hw
  rcases has_own (t.app Fr _ hw) with ⟨rfl, rfl, rfl⟩ | ⟨b, cap, sp, fr, ⟨rfl, o2, o3, o4, o5⟩, hw3⟩
  · have hR : Has (R ++ Fr) (heapOf w) := (t.app Fr _ hw).tail
    by_cases hm : m = 0
    · subst hm
      have hys : ys = [] := List.eq_nil_of_length_eq_zero (by simpa using hy)
      subst hys
      have hrun : SW P (Builtin.append_ tsz ty #[.slice none 0 0, x]) (fun v L' => v = .slice none 0 0 ∧ L' = R) R := by
        obtain ⟨hs, hn⟩ := elemOf_some he
        unfold Builtin.append_
        simp only [h0, h1, show (#[Value.slice none 0 0, x] : Array Value)[0]? = some (.slice none 0 0) from rfl, show (#[Value.slice none 0 0, x] : Array Value)[1]? = some x from rfl]
        refine SW.bind (SW.underlying hs ?_)
        refine SW.bind (SW.sizeOf hn ?_)
        rcases apTy_or hx with ⟨e', hX⟩ | hX
        · refine SW.bind (SW.underlying hX (SW.bind (SW.pure ?_)))
          simp only [Bool.false_eq_true, if_false, Bool.not_false, if_true]
          refine SW.bind (SW.runs (fun _ w _ => src.1 w) ?_)
          rw [if_pos (by omega)]
          exact SW.bind (SW.runs src.2 (SW.pure ⟨rfl, rfl⟩))
        · refine SW.bind (SW.underlying hX (SW.bind (SW.pure ?_)))
          simp only [Bool.false_eq_true, if_false, Bool.not_false, if_true]
          refine SW.bind (SW.runs (fun _ w _ => src.1 w) ?_)
          rw [if_pos (by omega)]
          exact SW.bind (SW.runs src.2 (SW.pure ⟨rfl, rfl⟩))
      obtain ⟨r, w', L', a, ⟨rfl, rfl⟩, c, d⟩ := hrun Fr w hR
      exact ⟨_, w', _, a, h none 0 (by simp), own_nil c, d⟩
    · obtain ⟨r, w', L', a, ⟨b, c, sp, rfl, rfl, hc1, hc2⟩, c', d⟩ := SW.appendGrow (K := fun v L' => ∃ b c sp, v = .slice (some ⟨b, 0, none⟩) (0 + m) c ∧ L' = pts b (.cells (([] ++ ys) ++ sp).toArray E) :: R ∧ 0 + m ≤ c ∧ sp.length = (c - (0 + m)) * sz)
        (ty := ty) (base := none) (cap := 0) (xs := []) h0 h1 he hb hz hzs hx (fun _ _ _ => rfl) src hbig (by omega) h2 (fun b c sp g1 g2 => ⟨b, c, sp, rfl, rfl, g1, g2⟩) Fr w hR
      exact ⟨_, w', _, a, h _ c (fun _ => ⟨b, rfl⟩), own_of (fr := (0, 0)) ⟨rfl, hc1, by simpa using hy, hc2, .inl (Nat.le_refl _)⟩ c', d⟩
  · by_cases hfit : n + m ≤ cap
    · have src' : Src P sz x m ys (pts b (.cells (xs ++ sp).toArray E fr) :: R) := ⟨src.1, fun Fr w y => src.2 Fr w y.tail⟩
      obtain ⟨r, w', L', a, hK, c', d⟩ := SW.appendFit (ty := ty) (K := fun v L' => v = .slice (some ⟨b, 0, none⟩) (n + m) cap ∧ ((ys ≠ [] ∧ L' = pts b (.cells (xs ++ (ys ++ sp.drop (m * sz))).toArray E fr) :: R) ∨ (ys = [] ∧ L' = pts b (.cells (xs ++ sp).toArray E fr) :: R)))
        h0 h1 he hx src' hfit o3 hy o4 hc o5 Wr.here WrM.here (fun g => ⟨rfl, .inl ⟨g, rfl⟩⟩) (fun g => ⟨rfl, .inr ⟨g, rfl⟩⟩) Fr w hw3
      obtain ⟨rfl, hK⟩ := hK
      have hlen : (xs ++ ys).length = (n + m) * sz := by rw [List.length_append, o3, hy, Nat.add_mul]
      have hsub : (cap - (n + m)) * sz = cap * sz - (n * sz + m * sz) := by rw [Nat.sub_mul, Nat.add_mul]
      have hsub2 : (cap - n) * sz = cap * sz - n * sz := Nat.sub_mul _ _ _
      refine ⟨_, w', _, a, h _ cap (fun _ => ⟨b, rfl⟩), ?_, d⟩
      rcases hK with ⟨_, rfl⟩ | ⟨g, rfl⟩
      · refine own_of (sp := sp.drop (m * sz)) ⟨rfl, hfit, hlen, by rw [List.length_drop]; omega, o5⟩ ?_
        rw [List.append_assoc]; exact c'
      · subst g
        have hm : m * sz = 0 := by simpa using hy.symm
        refine own_of (sp := sp) ⟨rfl, hfit, hlen, by omega, o5⟩ ?_
        rw [List.append_nil]; exact c'
    · have src' : Src P sz x m ys (pts b (.cells (xs ++ sp).toArray E fr) :: R) := ⟨src.1, fun Fr w y => src.2 Fr w y.tail⟩
      have old : ∀ Fr w, Has (pts b (.cells (xs ++ sp).toArray E fr) :: R ++ Fr) (heapOf w) → (Builtin.firstCells sz n (.slice (some ⟨b, 0, none⟩) n cap)).run P w = .ok xs.toArray w := by
        intro Fr w y
        have hr := run_loadCells (P := P) (off := 0) (n := n * sz) (has_pts y) (by simp; omega)
        simp only [Builtin.firstCells]
        rw [hr, ← o3, cellsAt_zero]
      obtain ⟨r, w', L', a, ⟨b', c, sp', rfl, rfl, hc1, hc2⟩, c', d⟩ := SW.appendGrow (K := fun v L' => ∃ b' c sp', v = .slice (some ⟨b', 0, none⟩) (n + m) c ∧ L' = pts b' (.cells ((xs ++ ys) ++ sp').toArray E) :: pts b (.cells (xs ++ sp).toArray E fr) :: R ∧ n + m ≤ c ∧ sp'.length = (c - (n + m)) * sz)
        (ty := ty) h0 h1 he hb hz hzs hx old src' hbig (by omega) h2 (fun b c sp g1 g2 => ⟨b, c, sp, rfl, rfl, g1, g2⟩) Fr w hw3
      refine ⟨_, w', _, a, h _ c (fun _ => ⟨b', rfl⟩), own_of (fr := (0, 0)) ⟨rfl, hc1, by rw [List.length_append, o3, hy, Nat.add_mul], hc2, .inl (Nat.le_refl _)⟩ ?_, d⟩
      exact Has.cons_of (fun _ y => y.tail) c'
end

section
variable {P : Program} {ro : Option Nat} {f : Frm} {L : List HP} {d : Option Nat} {ty : TypeId} {ps : String} {af : Array Edge} {gu : Option (Nat × Bool)} {K : Value → List HP → Prop}

/-- A call of a builtin. -/
theorem SV.bi {b : Builtin} {as : Array Operand} {ts : Array TypeId} {vs : List Value} {s : Sem Value} (hv : (as.map f.ev).toList = vs) (e : ∀ cs, Go.builtin b ts ty cs vs.toArray = (do let v ← s; pure (.value v)))
    (h : SW P s (fun v L' => K v L') L) : SV P ro ⟨d, .call { callee := .builtin b, args := as, argTypes := ts }, ty, ps, af, gu⟩ f K L := by
  have hv' : as.map f.ev = vs.toArray := by rw [← hv]
  refine (SV.val s (by intro c h; cases h) ?_ h)
  simp only [execOp, resolve, hv']
  simp only [bind, Sem.bind, pure, invoke]
  exact e _

/-- A call of a function. -/
theorem callFunc_run {P : Program} {g : FuncId} {fn : Func} {c : Code} (hf : P.funcs[g]? = some fn) (hb : fn.body = some c) (hn : (fn.name == "runtime.NumGoroutine") = false) (args : Array Value) (w : World) :
    (callFunc g args).run P w = .ok (.enter g args) w := by
  have h' : ¬ fn.name = "runtime.NumGoroutine" := by simpa using hn
  unfold callFunc
  simp [Go.program, Sem.run, hf, hb, h']
theorem OW.call {g : FuncId} {fn : Func} {c : Code} {as : Array Operand} {ts : Array TypeId} {vs : List Value} {next : Frm → List HP → Prop} (hf : P.funcs[g]? = some fn) (hb : fn.body = some c) (hn : (fn.name == "runtime.NumGoroutine") = false)
    (hv : (as.map f.ev).toList = vs) (t : Tri P g vs.toArray (fun v L' => next (f.putO d v) L') L) :
    OW P ro ⟨d, .call { callee := .value (.func g), args := as, argTypes := ts }, ty, ps, af, gu⟩ f next L := by
  have hv' : as.map f.ev = vs.toArray := by rw [← hv]
  unfold OW
  rw [Oper.semAt_eq _ _ _ (by intro c h; cases h)]
  refine SW.ok (a := Next.enter g vs.toArray) (fun w => ?_) t
  simp only [execOp, resolve, hv', Frm.ev, Deferred.ofValue]
  simp only [bind, Sem.bind, pure, invoke]
  have e : (#[] ++ vs.toArray ++ #[] : Array Value) = vs.toArray := by simp
  rw [e]
  exact callFunc_run hf hb hn vs.toArray w
theorem WO.call {N : Nat} {all : Array Oper} {rest : List Oper} {Q : Post} {g : FuncId} {fn : Func} {c : Code} {as : Array Operand} {ts : Array TypeId} {vs : List Value} {K : Value → List HP → Prop} (hf : P.funcs[g]? = some fn) (hb : fn.body = some c) (hn : (fn.name == "runtime.NumGoroutine") = false)
    (hv : (as.map f.ev).toList = vs) (hd : dOk N d = true) (t : Tri P g vs.toArray K L) (h : ∀ v L', K v L' → WO P N ro all rest Q (f.putO d v) L') :
    WO P N ro all (⟨d, .call { callee := .value (.func g), args := as, argTypes := ts }, ty, ps, af, none⟩ :: rest) Q f L :=
  WO.op hd (OW.call hf hb hn hv (t.mono fun v L' hk => h v L' hk))
/-- The same, where the callee takes some of the items. -/
theorem WO.callR {N : Nat} {all : Array Oper} {rest : List Oper} {Q : Post} {g : FuncId} {fn : Func} {c : Code} {as : Array Operand} {ts : Array TypeId} {vs : List Value} {K : Value → List HP → Prop} {A R : List HP} (hf : P.funcs[g]? = some fn) (hb : fn.body = some c) (hn : (fn.name == "runtime.NumGoroutine") = false)
    (hv : (as.map f.ev).toList = vs) (hd : dOk N d = true) (t : Tri P g vs.toArray K A) (e : Ent L (A ++ R)) (h : ∀ v L', K v L' → WO P N ro all rest Q (f.putO d v) (L' ++ R)) :
    WO P N ro all (⟨d, .call { callee := .value (.func g), args := as, argTypes := ts }, ty, ps, af, none⟩ :: rest) Q f L :=
  WO.call hf hb hn hv hd ((t.frame R).ent e) fun v L' ⟨L1, hL, hk⟩ => hL ▸ h v L1 hk

theorem SV.len_slice {t e : Nat} {x : Operand} {a : Option Addr} {n c : Nat} (hx : f.ev x = .slice a n c) [ht : TU P t (.slice e)] (h : K (.int .i64 n) L) :
    SV P ro ⟨d, .call { callee := .builtin .len, args := #[x], argTypes := #[t] }, ty, ps, af, gu⟩ f K L := by
  refine SV.bi (vs := [.slice a n c]) (s := Builtin.len_ #[t] ty #[.slice a n c]) (by simp [hx]) (fun _ => rfl) ?_
  unfold Builtin.len_
  exact SW.bind (SW.underlying ht.h (SW.pure h))
theorem SV.len_str {t : Nat} {x : Operand} {s : List UInt8} (hx : f.ev x = .string ⟨s.toArray⟩) [ht : TU P t .string] (h : K (.int .i64 s.length) L) :
    SV P ro ⟨d, .call { callee := .builtin .len, args := #[x], argTypes := #[t] }, ty, ps, af, gu⟩ f K L := by
  refine SV.bi (vs := [.string ⟨s.toArray⟩]) (s := Builtin.len_ #[t] ty #[.string ⟨s.toArray⟩]) (by simp [hx]) (fun _ => rfl) ?_
  unfold Builtin.len_
  exact SW.bind (SW.underlying ht.h (SW.pure h))
theorem SV.max2 {ts : Array TypeId} {x y : Operand} {k : IntKind} {a b c : Int} (hx : f.ev x = .int k a) (hy : f.ev y = .int k b) (hc : max a b = c) (h : K (.int k c) L) :
    SV P ro ⟨d, .call { callee := .builtin .max, args := #[x, y], argTypes := ts }, ty, ps, af, gu⟩ f K L := by
  refine SV.bi (vs := [.int k a, .int k b]) (s := Builtin.max_ ts ty #[.int k a, .int k b]) (by simp [hx, hy]) (fun _ => rfl) ?_
  refine SW.ok (a := .int k c) (fun w => ?_) h
  subst hc
  simp only [Builtin.max_, List.foldlM, Builtin.max2]
  simp only [Sem.run_bind, Sem.run_pure, Result.andThen_ok]
  congr 2; split <;> omega
theorem SV.min2 {ts : Array TypeId} {x y : Operand} {k : IntKind} {a b c : Int} (hx : f.ev x = .int k a) (hy : f.ev y = .int k b) (hc : min a b = c) (h : K (.int k c) L) :
    SV P ro ⟨d, .call { callee := .builtin .min, args := #[x, y], argTypes := ts }, ty, ps, af, gu⟩ f K L := by
  refine SV.bi (vs := [.int k a, .int k b]) (s := Builtin.min_ ts ty #[.int k a, .int k b]) (by simp [hx, hy]) (fun _ => rfl) ?_
  refine SW.ok (a := .int k c) (fun w => ?_) h
  subst hc
  simp only [Builtin.min_, List.foldlM, Builtin.min2]
  simp only [Sem.run_bind, Sem.run_pure, Result.andThen_ok]
  congr 2; split <;> omega
class TX (P : Program) (t : Nat) : Prop where h : apTy P t = true
theorem SV.append {tS tX E sz by_ : Nat} {z : List Value} {s v : Value} {n m : Nat} {xs ys : List Value} {R : List HP} {x y : Operand} (hx : f.ev x = s) (hy : f.ev y = v) [he : TE P tS E sz] [hb : TB P E by_] [hz : TZ P E z] [hX : TX P tX] (hzs : Nat.beq z.length sz = true)
    (t : Tk L (Own E sz s n xs) R) (src : Src P sz v m ys R) (hyl : ys.length = m * sz) (hc : ys.all isCell = true) (hbig : (2 * (n + m) + 192) * by_ ≤ 2 ^ 48) (h2 : Nat.ble 1 by_ = true)
    (h : ∀ a c, (n + m ≠ 0 → ∃ b, a = some ⟨b, 0, none⟩) → K (.slice a (n + m) c) (Own E sz (.slice a (n + m) c) (n + m) (xs ++ ys) :: R)) :
    SV P ro ⟨d, .call { callee := .builtin .append, args := #[x, y], argTypes := #[tS, tX] }, ty, ps, af, gu⟩ f K L := by
  obtain ⟨v', h3, h4⟩ := hz.ex
  refine SV.bi (vs := [s, v]) (s := Builtin.append_ #[tS, tX] ty #[s, v]) (by simp [hx, hy]) (fun _ => rfl) ?_
  have hz' := Nat.eq_of_beq_eq_true hzs
  exact SW.append rfl rfl he.h hb.h h3 (by rw [h4]; simpa using hz') hX.h t src hyl hc hbig (.inl (by have := Nat.le_of_ble_eq_true h2; omega)) h
end
end Go.SL
