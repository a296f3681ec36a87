/- A range over a function. Generic in the program. -/
import Derived.Test.YtcjpiceklicmoaaGreatDoorSlS
import Derived.RangeFuncRecord
import Derived.RangeFuncLeaves
namespace Go.SL
set_option linter.unusedVariables false
set_option linter.unusedSimpArgs false
set_option linter.unusedSectionVars false
/-- A call of yield: what it answers, and what is behind it. -/
def Yld (P : Program) (l : Nat) (vs : Array Value) (K : Value → List HP → Prop) (L : List HP) : Prop :=
  ∀ (ro : Option Nat) (Fr : List HP) (w : World), Has (L ++ Fr) (heapOf w) → ∃ g tmps as body, (Instr.yield l vs).run P w = .ok (.round l g tmps as body) w ∧
    RoundIn (FW ro) 0 P l g tmps as body w (fun e w' => ∃ v L', e = .returned v ∧ K v L' ∧ Has (L' ++ Fr) (heapOf w') ∧ Keep w w')
theorem Yld.mono {P : Program} {l : Nat} {vs : Array Value} {K K' : Value → List HP → Prop} {L : List HP} (h : Yld P l vs K L) (k : ∀ v M, K v M → K' v M) : Yld P l vs K' L := fun ro Fr w x =>
  let ⟨g, tmps, as, body, a, b⟩ := h ro Fr w x
  ⟨g, tmps, as, body, a, RoundIn.mono b fun _ _ ⟨v, L', e, q, y, z⟩ => ⟨v, L', e, k _ _ q, y, z⟩⟩
theorem Yld.ent {P : Program} {l : Nat} {vs : Array Value} {K : Value → List HP → Prop} {L M : List HP} (e : Ent L M) (h : Yld P l vs K M) : Yld P l vs K L := fun ro Fr w x => h ro Fr w (e.app Fr _ x)
theorem Yld.frame {P : Program} {l : Nat} {vs : Array Value} {K : Value → List HP → Prop} {L : List HP} (R : List HP) (h : Yld P l vs K L) : Yld P l vs (fun v M => ∃ M1, M = M1 ++ R ∧ K v M1) (L ++ R) := fun ro Fr w x => by
  rw [List.append_assoc] at x
  obtain ⟨g, tmps, as, body, a, b⟩ := h ro (R ++ Fr) w x
  refine ⟨g, tmps, as, body, a, RoundIn.mono b ?_⟩
  rintro e w' ⟨v, L', e', q, y, z⟩
  exact ⟨v, L' ++ R, e', ⟨L', rfl, q⟩, by rw [List.append_assoc]; exact y, z⟩
section
variable {P : Program} {N : Nat} {ro : Option Nat} {Q : Post} {f : Frm} {L : List HP} {all : Array Oper} {rest : List Oper} {d : Option Nat} {ty : TypeId} {ps : String} {af : Array Edge}
theorem WO.yieldE {l : Nat} {y : Operand} {xs : List Operand} {ts : Array TypeId} {vs : List Value} {R : Value → List HP → Prop} (hy : f.ev y = .func (.yield l) #[] #[]) (hv : xs.map f.ev = vs) (hd : dOk N d = true)
    (t : Yld P l vs.toArray R L) (h : ∀ v M, R v M → WO P N ro all rest Q (f.putO d v) M) :
    WO P N ro all (⟨d, .call { callee := .value y, args := xs.toArray, argTypes := ts }, ty, ps, af, none⟩ :: rest) Q f L := by
  have hv' : xs.toArray.map f.ev = vs.toArray := by rw [← hv]; simp
  intro Fr w a r z
  have hw : Region.wanted (⟨d, .call { callee := .value y, args := xs.toArray, argTypes := ts }, ty, ps, af, none⟩ : Oper) (yielded all a.tmps) = true := rfl
  simp only [wpL, hw, if_true, Oper.wpIn]
  refine ⟨fun _ _ => trivial, ?_⟩
  obtain ⟨g, tmps, as, body, h1, h2⟩ := t ro Fr w z
  have hrun : ((⟨d, .call { callee := .value y, args := xs.toArray, argTypes := ts }, ty, ps, af, none⟩ : Oper).semAt ro f.ev).run P w = .ok (.round l g tmps as body) w := by
    rw [Oper.semAt_eq _ _ _ (by intro c h; cases h)]
    simp only [execOp, resolve, hv', hy, Deferred.ofValue]
    simp only [bind, Sem.bind, pure, invoke]
    have e : (#[] ++ vs.toArray : Array Value) = vs.toArray := by simp
    rw [e]
    exact h1
  rw [show a.eval = f.ev from r.eval, show (FW ro).round = ro from rfl, hrun, Oper.uponIn_round]
  refine ⟨fun h => by simp [FW] at h, RoundIn.mono h2 ?_⟩
  rintro e w' ⟨v, L', rfl, hK, hh', hk'⟩
  refine wpL_mono ?_ _ _ _ (h v L' hK Fr w' _ (r.put hd v) hh')
  rintro e a1 w1 ⟨f1, L1, r1, q, y, kp, kt⟩
  exact ⟨f1, L1, r1, q, y, hk'.trans kp, (Kept.right kt).trans (Kept.left (Kept.putO f _ _ (fun _ h => h)))⟩

/-- A round that ends at its end, and no other way. -/
def onlyN (K : Frm → List HP → Prop) : Post
  | .normal, f, L => K f L
  | _, _, _ => False
structure RecOk (P : Program) (N : Nat) (f : Frm) (p : Tmp) (as body : Code) (r : Loop) : Prop where
  state : r.state = .ready
  pending : r.pending = none
  params : r.params = #[p]
  assign : r.assign = as
  body : r.body = body
  rep : Rep N { tmps := r.tmps, defers := [] } { v := f.v, ds := [] }
theorem Has.rot {A : HP} {L M : List HP} : ∀ h, Has (A :: L ++ M) h → Has (L ++ (A :: M)) h := Has.perm (by
  rw [List.cons_append]; exact List.perm_middle.symm)
theorem Has.rot' {A : HP} {L M : List HP} : ∀ h, Has (L ++ (A :: M)) h → Has (A :: L ++ M) h := Has.perm (by
  rw [List.cons_append]; exact List.perm_middle)
theorem keep_put (w : World) (l : Nat) (o : Obj) : Keep w (w.putObj l o) := ⟨rfl, rfl, rfl, by simp [World.putObj]⟩
theorem has_putObj {l : Nat} {o o' : Obj} {L : List HP} {w : World} (x : Has (pts l o :: L) (heapOf w)) : Has (pts l o' :: L) (heapOf (w.putObj l o')) := by
  have hl : l < w.heap.size := by
    have := has_pts x
    exact (Array.getElem?_eq_some_iff.1 this).1
  refine has_set x fun c => ?_
  unfold heapOf
  by_cases h : c = l
  · subst h; rw [if_pos rfl]; exact World.putObj_heap_same hl
  · rw [if_neg h]; exact World.putObj_heap_other h
theorem Yld.of {l : Nat} {p : Tmp} {x : Value} {as body : Code} {r : Loop} {K : List HP → Prop} (hr : RecOk P N f p as body r) (hp : Nat.blt p N = true)
    (h : W P N (some l) as (onlyN fun f1 L1 => W P N (some l) body (onlyN fun f2 L2 => K L2) f1 L1) ({ v := f.v, ds := [] : Frm }.put p x) L) :
    Yld P l #[x] (fun v M => v = .bool true ∧ ∃ M', M = pts l (.loop r) :: M' ∧ K M') (pts l (.loop r) :: L) := by
  intro ro Fr w z
  have hl := has_pts z
  have hy := run_yield (P := P) (args := #[x]) hl (by rw [hr.params]; rfl)
  refine ⟨r.fn, _, r.assign, r.body, hy, roundIn_of_wpIn trivial ?_⟩
  rw [hr.assign, hr.body, hr.params]
  have hrep : Rep N { tmps := (#[p].zip #[x]).foldl (fun t (q : Tmp × Value) => t.setIfInBounds q.1 q.2) r.tmps, defers := [] } ({ v := f.v, ds := [] : Frm }.put p x) := by
    have e : (#[p].zip #[x]).foldl (fun t (q : Tmp × Value) => t.setIfInBounds q.1 q.2) r.tmps = r.tmps.setIfInBounds p x := by simp
    rw [e]
    exact hr.rep.put (d := some p) hp x
  refine wpIn_mono (h (pts l (.loop r) :: Fr) w _ hrep (Has.rot _ z)) ?_
  rintro e a1 w1 ⟨f1, L1, r1, q, y, kp, kt⟩
  cases e with
  | normal =>
    have y1 := Has.rot' _ y
    refine ⟨_, run_beginRound (has_pts y1) hr.state, ?_⟩
    have y2 := has_putObj (o' := .loop { r with state := .busy }) y1
    refine wpIn_mono (q (pts l (.loop { r with state := .busy }) :: Fr) _ a1 r1 (Has.rot _ y2)) ?_
    rintro e a2 w2 ⟨f2, L2, r2, q2, y3, kp2, kt2⟩
    cases e with
    | normal =>
      have y4 := Has.rot' _ y3
      refine ⟨_, _, run_endRound none (has_pts y4), _, _, rfl, ⟨rfl, L2, rfl, q2⟩, ?_, ?_⟩
      · have y5 := has_putObj (o' := .loop r) y4
        have e : ({ ({ r with state := .busy } : Loop) with state := if (none : Option Code).isNone then .ready else .done, pending := none } : Loop) = r := by
          have h1 := hr.state; have h2 := hr.pending
          cases r; simp at h1 h2; subst h1; subst h2; rfl
        rw [e]; exact y5
      · exact kp.trans ((keep_put _ _ _).trans (kp2.trans (keep_put _ _ _)))
    | exit id => exact q2.elim
    | goto t => exact q2.elim
    | ret => exact q2.elim
    | panic c => exact q2.elim
    | outgrown => exact q2.elim
  | exit id => exact q.elim
  | goto t => exact q.elim
  | ret => exact q.elim
  | panic c => exact q.elim
  | outgrown => exact q.elim
theorem keep_alloc (w : World) (o : Obj) : Keep w (w.alloc o) := ⟨rfl, rfl, rfl, by simp [World.size_alloc]⟩
theorem has_alloc {o : Obj} {L : List HP} {w : World} (x : Has L (heapOf w)) : Has (pts w.heap.size o :: L) (heapOf (w.alloc o)) := by
  refine has_new x (by unfold heapOf; simp) fun c => ?_
  unfold heapOf
  by_cases h : c = w.heap.size
  · subst h; rw [if_pos rfl]; exact World.alloc_heap_new w o
  · rw [if_neg h]
    simp only [World.alloc]
    rw [Array.getElem?_push]; simp [h]
/-- A range over a function, no round of which jumps; outside any round. -/
theorem W.rangeF {g : Operand} {p : Tmp} {as body : Code} {gf : Nat} {lb : List Value} {fn : Func} {c : Code} (hg : f.ev g = .func (.func gf) #[] lb.toArray) (hf : P.funcs[gf]? = some fn) (hb : fn.body = some c) (hn : (fn.name == "runtime.NumGoroutine") = false)
    (h : ∀ D l r, RecOk P N f p as body r → TriE P gf (.func (.yield l) #[] #[] :: lb).toArray (fun v M => ∃ M', Ent M (pts l (.loop r) :: M') ∧ Q .normal (f.defer ⟨.collected D, #[]⟩) (pts D (.deferred (some [])) :: M')) (pts l (.loop r) :: L)) :
    W P N none (.rangeFunc g #[p] as body) Q f L := by
  intro Fr w a hr z
  refine wpIn_rangeFunc ?_
  intro fno _
  have z1 := has_alloc (o := .deferred (some [])) z
  have z2 := has_alloc (o := .loop { state := .ready, pending := none, fn := fno, tmps := a.tmps, params := #[p], assign := as, body := body, defers := w.heap.size }) z1
  rw [World.size_alloc] at z2
  generalize hrr : ({ state := .ready, pending := none, fn := fno, tmps := a.tmps, params := #[p], assign := as, body := body, defers := w.heap.size } : Loop) = r at z2
  have hro : RecOk P N f p as body r := by
    subst hrr
    exact ⟨rfl, rfl, rfl, rfl, rfl, hr.size, hr.get, rfl⟩
  refine ⟨w.heap.size + 1, [{ target := .collected w.heap.size, args := #[] }], (w.alloc (.deferred (some []))).alloc (.loop r), { target := .fn (.func gf) lb.toArray, args := #[.func (.yield (w.heap.size + 1)) #[] #[]] }, (w.alloc (.deferred (some []))).alloc (.loop r), gf,
    (.func (.yield (w.heap.size + 1)) #[] #[] :: lb).toArray, (w.alloc (.deferred (some []))).alloc (.loop r), ?_, ?_, fun _ _ => trivial, ?_, fun h => by simp [FW] at h, ?_⟩
  · rw [← hrr]; exact run_enterLoop_outer _ _ _ _ _
  · simp only [resolve, show a.eval = f.ev from hr.eval, hg]
    simp [go_sem, Frm.ev]
  · have e : (#[Value.func (.yield (w.heap.size + 1)) #[] #[]] ++ lb.toArray : Array Value) = (Value.func (.yield (w.heap.size + 1)) #[] #[] :: lb).toArray := by simp
    simp only [invoke]
    rw [e]
    exact callFunc_run hf hb hn _ _
  · have z3 : Has ((pts (w.heap.size + 1) (.loop r) :: L) ++ (pts w.heap.size (.deferred (some [])) :: Fr)) (heapOf ((w.alloc (.deferred (some []))).alloc (.loop r))) := by
      refine Has.perm ?_ _ z2
      simp only [List.cons_append]
      exact List.Perm.cons _ List.perm_middle.symm
    refine callsIn_FW (Calls.mono (h w.heap.size (w.heap.size + 1) r hro _ _ z3) ?_)
    rintro e w' ⟨v, L', rfl, ⟨M, em, M', em', q⟩, y, k⟩
    have y1 : Has (pts (w.heap.size + 1) (.loop r) :: (M' ++ (pts w.heap.size (.deferred (some [])) :: Fr))) (heapOf w') := by
      have := (em.trans em').app (pts w.heap.size (.deferred (some [])) :: Fr) _ y
      simpa using this
    refine ⟨none, w'.putObj (w.heap.size + 1) (.loop { r with state := .exhausted }), ?_, ?_⟩
    · have := run_endLoop (P := P) (has_pts y1) (by rw [hro.state]; simp)
      rw [this, hro.pending]
    · refine ⟨_, _, ?_, q, Has.rot' _ (has_putObj (o' := .loop { r with state := .exhausted }) y1).tail, ?_, ?_⟩
      · exact ⟨hr.size, hr.get, by simp [Frm.defer, hr.ds]⟩
      · exact (keep_alloc _ _).trans ((keep_alloc _ _).trans (k.trans (keep_put _ _ _)))
      · exact fun _ _ => rfl
/-- A function's end, a range over a function behind it. -/
def endD (P : Program) (rs : List ResultVar) (K : Value → List HP → Prop) : Post
  | .normal, f, L | .ret, f, L => ∃ D M, f.ds = [⟨.collected D, #[]⟩] ∧ Ent L (pts D (.deferred (some [])) :: M) ∧ ∃ vs, Ress P f M rs vs ∧ K (retV vs) M
  | _, _, _ => False
theorem Tri.ofD {g : FuncId} {fn : Func} {c : Code} {args : List Value} {K : Value → List HP → Prop} {rs : List ResultVar} (hf : P.funcs[g]? = some fn) (hb : fn.body = some c)
    (hN : args.length + (fn.ntmps - args.length) = N) (hr : fn.results = rs.toArray) (h : W P N none c (endD P rs K) (ini args) L) : Tri P g args.toArray K L := by
  subst hN
  intro Fr w x
  refine calls_FW (ro := none) (n := 0) (callsIn_of_wp_marks hf hb trivial (wpIn_mono (h Fr w _ (rep_ini args fn.ntmps) x) ?_) rfl)
  have fin : ∀ {a : Act} {w' : World} {f' : Frm} {L' : List HP}, Rep (args.length + (fn.ntmps - args.length)) a f' → (∃ D M, f'.ds = [⟨.collected D, #[]⟩] ∧ Ent L' (pts D (.deferred (some [])) :: M) ∧ ∃ vs, Ress P f' M rs vs ∧ K (retV vs) M) → Has (L' ++ Fr) (heapOf w') → Keep w w' →
      LeavesInM (FW none) 0 P fn a.tmps (fun e w' => ∃ v L', e = .returned v ∧ K v L' ∧ Has (L' ++ Fr) (heapOf w') ∧ Keep w w') a.defers .returning w' := by
    rintro a w' f' L' r' ⟨D, M, hd, hent, vs, h1, h2⟩ y kp
    rw [r'.ds.trans hd]
    have y1 : Has (pts D (.deferred (some [])) :: (M ++ Fr)) (heapOf w') := by
      have := hent.app Fr _ y
      simpa using this
    have y2 := (has_putObj (o' := .deferred none) y1).tail
    refine ⟨by simp, .inl ⟨D, _, rfl, run_takeDeferred (has_pts y1), ?_⟩⟩
    unfold LeavesInM LeavesIn
    exact ⟨retV vs, results_run r' y2 hr h1, retV vs, M, rfl, h2, y2, kp.trans (keep_put _ _ _)⟩
  rintro e a w' ⟨f', L', r', q, y, kp, kt⟩
  cases e with
  | normal => exact fin r' q y kp
  | ret => exact fin r' q y kp
  | _ => exact q.elim
end
theorem Yld.hex {P : Program} {l : Nat} {vs : Array Value} {K : Value → List HP → Prop} {α : Type} {N : α → List HP} (h : ∀ x, Yld P l vs K (N x)) : Yld P l vs K [SL.hex fun x => SL.conj (N x)] := fun ro Fr w x => by
  obtain ⟨q, y⟩ := has_hex.1 x
  exact h q ro Fr w (has_conj.1 y)
theorem Yld.pure {P : Program} {l : Nat} {vs : Array Value} {K : Value → List HP → Prop} {p : Prop} {L : List HP} (h : p → Yld P l vs K L) : Yld P l vs K (hpure p :: L) := fun ro Fr w x => h (has_pure.1 x).1 ro Fr w (has_pure.1 x).2
theorem Ent.swap2 {A B : HP} {L : List HP} : Ent (A :: B :: L) (B :: A :: L) := fun _ y => Has.swap y
theorem TriE.post {P : Program} {g : FuncId} {args : Array Value} {Q Q' : Value → List HP → Prop} {L : List HP} (t : TriE P g args Q L) (k : ∀ v M, Q v M → ∃ M', Ent M M' ∧ Q' v M') : TriE P g args Q' L :=
  Tri.mono t fun v L' ⟨M, e, q⟩ => let ⟨M', e', q'⟩ := k v M q; ⟨M', e.trans e', q'⟩
theorem Ent.unpure {p : Prop} {L M : List HP} (h : p → Ent L M) : Ent (hpure p :: L) M := fun k x => h (has_pure.1 x).1 k (has_pure.1 x).2
theorem Ent.unhex {α : Type} {N : α → List HP} {M : List HP} (h : ∀ x, Ent (N x) M) : Ent [SL.hex fun x => SL.conj (N x)] M := fun k x => by
  obtain ⟨q, y⟩ := has_hex.1 x
  exact h q k (by have := has_conj.1 y; rwa [List.append_nil] at this)
theorem Ent.tohex {α : Type} {N : α → List HP} {L : List HP} (x : α) (h : Ent L (N x)) : Ent L [SL.hex fun x => SL.conj (N x)] := fun k y => has_hex.2 ⟨x, has_conj.2 (by rw [List.append_nil]; exact h k y)⟩
end Go.SL
