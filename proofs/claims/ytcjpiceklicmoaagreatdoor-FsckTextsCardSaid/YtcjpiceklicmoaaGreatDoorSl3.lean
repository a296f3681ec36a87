/- SL 3: regions, operations, calls and returns over items. Generic in the program. -/
import Derived.Test.YtcjpiceklicmoaaGreatDoorSl2
namespace Go.SL
set_option linter.unusedVariables false
set_option linter.unusedSimpArgs false

/-! ### Calls -/
/-- A call: of the items L (and whatever else there is), v is answered, and K holds of it and the items behind. -/
def Tri (P : Program) (g : FuncId) (args : Array Value) (K : Value → List HP → Prop) (L : List HP) : Prop :=
  ∀ Fr w, Has (L ++ Fr) (heapOf w) → Calls P g args w fun e w' => ∃ v L', e = .returned v ∧ K v L' ∧ Has (L' ++ Fr) (heapOf w') ∧ Keep w w'

theorem callsIn_FW {ro : Option Nat} {n : Nat} {P : Program} {f : FuncId} {args : Array Value} {w : World} {R : Ending → World → Prop} (h : Calls P f args w R) : CallsIn (FW ro) n P f args w R :=
  (callsIn_wide (n := n)).2 h
theorem calls_FW {ro : Option Nat} {n : Nat} {P : Program} {f : FuncId} {args : Array Value} {w : World} {R : Ending → World → Prop} (h : CallsIn (FW ro) n P f args w R) : Calls P f args w R :=
  (callsIn_wide (n := n)).1 h

section
variable {P : Program} {g : FuncId} {args : Array Value} {K K' : Value → List HP → Prop} {L M : List HP}
theorem Tri.mono (h : Tri P g args K L) (k : ∀ v L, K v L → K' v L) : Tri P g args K' L :=
  fun Fr w x => Calls.mono (h Fr w x) fun _ _ ⟨v, L', a, b, c, d⟩ => ⟨v, L', a, k _ _ b, c, d⟩
theorem Tri.has (p : ∀ Fr h, Has (L ++ Fr) h → Has (M ++ Fr) h) (h : Tri P g args K M) : Tri P g args K L := fun Fr w x => h Fr w (p Fr _ x)
/-- The rest of the items is as it was. -/
theorem Tri.frame (R : List HP) (h : Tri P g args K L) : Tri P g args (fun v L' => ∃ L1, L' = L1 ++ R ∧ K v L1) (L ++ R) := by
  intro Fr w x
  rw [List.append_assoc] at x
  refine Calls.mono (h (R ++ Fr) w x) ?_
  rintro e w' ⟨v, L', a, b, c, d⟩
  exact ⟨v, L' ++ R, a, ⟨L', rfl, b⟩, by rw [List.append_assoc]; exact c, d⟩
end

/-! ### Operations -/
/-- What comes of an operation's run. -/
def upon (P : Program) (dst : Option Nat) (f : Frm) (next : Frm → List HP → Prop) (nx : Next) (L : List HP) : Prop :=
  match nx with
  | .value v => next (f.putO dst v) L
  | .skip => next (f.putO dst undef) L
  | .defer d => next ((f.defer d).putO dst undef) L
  | .enter g args => Tri P g args (fun v L' => next (f.putO dst v) L') L
  | _ => False
def OW (P : Program) (ro : Option Nat) (o : Oper) (f : Frm) (next : Frm → List HP → Prop) (L : List HP) : Prop :=
  SW P (o.semAt ro f.ev) (fun nx L' => upon P o.dst f next nx L') L

/-- Operations, one behind the other: as 'wpOpsIn', by a list. -/
def wpL (F : Fence) (P : Program) (ops : Array Oper) (Q : Exit → Act → World → Prop) : List Oper → Act → World → Prop
  | [], a, w => Q .normal a w
  | o :: rest, a, w =>
    if Region.wanted o (yielded ops a.tmps) then o.wpIn F 0 P a w (wpL F P ops Q rest) Q
    else (∀ f, o.about P w a.eval = some f → F.fn f) ∧ wpL F P ops Q rest (a.put o.dst undef) w
theorem wpL_of (F : Fence) (P : Program) (ops : Array Oper) (Q : Exit → Act → World → Prop) : ∀ (l : List Nat) (a : Act) (w : World),
    wpL F P ops Q (l.filterMap fun i => ops[i]?) a w → wpOpsIn F 0 P ops Q l a w
  | [], a, w, h => h
  | i :: l, a, w, h => by
    simp only [wpOpsIn]
    cases ho : ops[i]? with
    | none => simp only [List.filterMap_cons, ho] at h; exact wpL_of F P ops Q l a w h
    | some o =>
      simp only [List.filterMap_cons, ho, wpL] at h ⊢
      split
      · rename_i hw; simp only [hw, if_true] at h
        exact Oper.wpIn_mono (fun a w => wpL_of F P ops Q l a w) h
      · rename_i hw; simp only [hw] at h
        exact ⟨h.1, wpL_of F P ops Q l _ w h.2⟩
theorem range_filterMap (ops : Array Oper) : (List.range ops.size).filterMap (fun i => ops[i]?) = ops.toList := by
  rw [← Array.length_toList]
  have : ∀ (l : List Oper), (List.range l.length).filterMap (fun i => l[i]?) = l := by
    intro l
    induction l with
    | nil => rfl
    | cons x l ih =>
      rw [List.length_cons, List.range_succ_eq_map, List.filterMap_cons]
      simp only [List.getElem?_cons_zero, List.filterMap_map]
      congr 1
  simpa using this ops.toList

/-- Operations in the text's order: 'all' is the whole region (for the guards). -/
def WO (P : Program) (N : Nat) (ro : Option Nat) (all : Array Oper) (todo : List Oper) (Q : Post) (f : Frm) (L : List HP) : Prop :=
  ∀ Fr w a, Rep N a f → Has (L ++ Fr) (heapOf w) → wpL (FW ro) P all (lift N (mOps todo) Fr w f Q) todo a w

theorem upon_mono {P : Program} {d : Option Nat} {f : Frm} {nx : Next} {L : List HP} {K K' : Frm → List HP → Prop} (k : ∀ f L, K f L → K' f L) (h : upon P d f K nx L) : upon P d f K' nx L := by
  cases nx <;> simp only [upon] at h ⊢ <;> first | exact k _ _ h | exact h.mono fun v L => k _ L | exact h

section
variable {P : Program} {N : Nat} {ro : Option Nat} {Q : Post} {f : Frm} {L : List HP} {all : Array Oper} {rest : List Oper}

theorem W.region {id : Nat} (h : WO P N ro all all.toList Q f L) : W P N ro (.region id all false) Q f L := by
  intro Fr w a r z
  refine wpIn_region (wpL_of _ _ _ _ _ _ _ ?_)
  rw [range_filterMap]
  exact h Fr w a r z
theorem WO.nil (h : Q .normal f L) : WO P N ro all [] Q f L := fun Fr w a r x => ⟨f, L, r, h, x, Keep.refl _, Kept.refl _ _⟩

theorem wpL_mono {F : Fence} {Q Q' : Exit → Act → World → Prop} (k : ∀ e a w, Q e a w → Q' e a w) : ∀ (todo : List Oper) (a : Act) (w : World), wpL F P all Q todo a w → wpL F P all Q' todo a w
  | [], a, w, h => k _ _ _ h
  | o :: rest, a, w, h => by
    simp only [wpL] at h ⊢
    split
    · rename_i hw; simp only [hw, if_true] at h
      unfold Oper.wpIn at h ⊢
      refine ⟨h.1, ?_⟩
      have h := h.2
      generalize (o.semAt F.round a.eval).run P w = r at *
      cases r with
      | ok x w' =>
        cases x <;> simp only [Oper.uponIn] at h ⊢ <;>
          first
            | exact wpL_mono k rest _ _ h
            | exact ⟨h.1, CallsIn.mono h.2 (fun e w'' he => by cases e <;> first | exact wpL_mono k rest _ _ he | exact k _ _ _ he | exact let ⟨a, w, q⟩ := he; ⟨a, w, k _ _ _ q⟩)⟩
            | exact ⟨h.1, RowsIn.mono h.2 (fun _ _ he => wpL_mono k rest _ _ he)⟩
            | exact ⟨h.1, RoundIn.mono h.2 (fun e w'' he => by cases e <;> first | exact wpL_mono k rest _ _ he | exact k _ _ _ he | exact let ⟨a, w, q⟩ := he; ⟨a, w, k _ _ _ q⟩)⟩
            | exact h
      | halt x w' => cases x <;> simp only [Oper.uponIn] at h ⊢ <;> first | exact k _ _ _ h | exact h
    · rename_i hw; simp only [hw] at h
      exact ⟨h.1, wpL_mono k rest _ _ h.2⟩

theorem WO.mono {todo : List Oper} {Q' : Post} (h : WO P N ro all todo Q f L) (k : ∀ e f L, Q e f L → Q' e f L) : WO P N ro all todo Q' f L :=
  fun Fr w a r x => wpL_mono (fun _ _ _ ⟨f', L', r', q, y, kp, kt⟩ => ⟨f', L', r', k _ _ _ q, y, kp, kt⟩) _ _ _ (h Fr w a r x)
theorem WO.has {todo : List Oper} {M : List HP} (p : ∀ Fr h, Has (L ++ Fr) h → Has (M ++ Fr) h) (h : WO P N ro all todo Q f M) : WO P N ro all todo Q f L :=
  fun Fr w a r x => h Fr w a r (p Fr _ x)

/-- An operation whose guard (if any) is on. -/
theorem WO.on {o : Oper} (hd : dOk N o.dst = true) (hg : ∀ a, Rep N a f → Region.wanted o (yielded all a.tmps) = true) (h : OW P ro o f (fun f' L' => WO P N ro all rest Q f' L') L) :
    WO P N ro all (o :: rest) Q f L := by
  intro Fr w a r z
  simp only [wpL, hg a r, if_true, Oper.wpIn]
  refine ⟨fun _ _ => trivial, ?_⟩
  obtain ⟨nx, w', L', hrun, hu, hh, hk⟩ := h Fr w z
  rw [show a.eval = f.ev from r.eval, show (FW ro).round = ro from rfl, hrun]
  have fin : ∀ {f' : Frm} {a' : Act} {w'' : World} {L'' : List HP}, Rep N a' f' → Kept (mO o.dst) f' f → Keep w w'' → Has (L'' ++ Fr) (heapOf w'') → WO P N ro all rest Q f' L'' →
      wpL (FW ro) P all (lift N (mOps (o :: rest)) Fr w f Q) rest a' w'' := by
    intro f' a' w'' L'' hr hkt hkp hh' hwo
    refine wpL_mono ?_ _ _ _ (hwo Fr w'' a' hr hh')
    rintro e a1 w1 ⟨f1, L1, r1, q, y, kp, kt⟩
    exact ⟨f1, L1, r1, q, y, hkp.trans kp, (Kept.right kt).trans (Kept.left hkt)⟩
  have hput : ∀ (x : Value), Kept (mO o.dst) (f.putO o.dst x) f := fun x => Kept.putO f _ x (fun _ h => h)
  cases nx <;> simp only [upon] at hu <;> simp only [Oper.uponIn]
  case value v => exact fin (r.put hd v) (hput v) hk hh hu
  case skip => exact fin (r.put hd undef) (hput undef) hk hh hu
  case defer d =>
    have r2 : Rep N { a with defers := d :: a.defers } (f.defer d) := ⟨r.size, r.get, by simp [Frm.defer, r.ds]⟩
    refine fin (f' := (f.defer d).putO o.dst undef) (r2.put hd undef) ?_ hk hh hu
    exact (Kept.putO (f.defer d) _ undef (fun _ h => h)).trans (fun _ _ => rfl)
  case enter g args =>
    refine ⟨fun h => by simp [FW] at h, callsIn_FW (Calls.mono (hu Fr w' hh) ?_)⟩
    rintro e w'' ⟨v, L'', rfl, hK, hh', hk'⟩
    exact fin (r.put hd v) (hput v) (hk.trans hk') hh' hK
  all_goals exact hu

/-- An operation without a guard. -/
theorem WO.op {d : Option Nat} {op : Op} {ty : TypeId} {ps : String} {af : Array Edge} (hd : dOk N d = true) (h : OW P ro ⟨d, op, ty, ps, af, none⟩ f (fun f' L' => WO P N ro all rest Q f' L') L) :
    WO P N ro all (⟨d, op, ty, ps, af, none⟩ :: rest) Q f L := WO.on hd (fun _ _ => rfl) h

/-- A guarded operation, by what the guard's slot holds. -/
theorem WO.guard {d : Option Nat} {op : Op} {ty : TypeId} {ps : String} {af : Array Edge} {j t : Nat} {want b : Bool} (hd : dOk N d = true) (hj : (all[j]?).bind (·.dst) = some t) (ht : Nat.blt t N = true) (hb : f.v t = .bool b)
    (h1 : b = want → WO P N ro all (⟨d, op, ty, ps, af, none⟩ :: rest) Q f L) (h2 : b ≠ want → WO P N ro all rest Q (f.putO d undef) L) :
    WO P N ro all (⟨d, op, ty, ps, af, some (j, want)⟩ :: rest) Q f L := by
  have hy : ∀ a, Rep N a f → yielded all a.tmps j = some b := by
    intro a r
    have ht' : t < a.tmps.size := by rw [r.size]; simpa [Nat.blt_eq] using ht
    have := r.get t
    rw [Array.getD_eq_getD_getElem?, Array.getElem?_eq_getElem ht', Option.getD_some, hb] at this
    simp only [yielded, hj, Option.bind_some, Array.getElem?_eq_getElem ht', this]
  intro Fr w a r z
  by_cases e : b = want
  · have := h1 e Fr w a r z
    simp only [wpL, Region.wanted, if_true, hy a r, e, beq_self_eq_true] at this ⊢
    exact this
  · have hw : (some b == some want) = false := by simpa using e
    simp only [wpL, Region.wanted, hy a r, hw]
    refine ⟨fun _ _ => trivial, wpL_mono ?_ _ _ _ (h2 e Fr w _ (r.put hd undef) z)⟩
    rintro e a1 w1 ⟨f1, L1, r1, q, y, kp, kt⟩
    exact ⟨f1, L1, r1, q, y, kp, (Kept.right kt).trans (Kept.left (Kept.putO f _ _ (fun _ h => h)))⟩
end

/-! ### Entering a function, and its end -/
def nth : List Value → Nat → Value
  | [], _ => undef
  | x :: _, 0 => x
  | _ :: l, n + 1 => nth l n
def ini (args : List Value) : Frm := { v := nth args, ds := [] }
theorem nth_eq : ∀ (l : List Value) (t : Nat), l.getD t undef = nth l t
  | [], t => rfl
  | x :: l, 0 => rfl
  | x :: l, t + 1 => by simpa [nth] using nth_eq l t
theorem rep_ini (args : List Value) (n : Nat) : Rep (args.length + (n - args.length)) { tmps := args.toArray ++ Array.replicate (n - args.toArray.size) undef, defers := [] } (ini args) := by
  refine ⟨by simp, fun t => ?_, rfl⟩
  show (args.toArray ++ Array.replicate (n - args.toArray.size) undef).getD t undef = nth args t
  rw [← nth_eq]
  by_cases h : t < args.length
  · simp [Array.getElem?_append_left, h]
  · have h' : args.length ≤ t := Nat.le_of_not_lt h
    rw [Array.getD_eq_getD_getElem?, Array.getElem?_append_right (by simpa using h')]
    simp [List.getElem?_eq_none h', Array.getElem?_replicate]
    split <;> rfl

/-- The results of a function's end, out of the frame and the items. -/
def Res (P : Program) (f : Frm) (L : List HP) (r : ResultVar) (v : Value) : Prop :=
  match r with
  | .tmp t => f.v t = v
  | .cell a t => ∃ b off, f.v a = .pointer (some ⟨b, off, none⟩) ∧ ∀ Fr w, Has (L ++ Fr) (heapOf w) → (loadVar t ⟨b, off, none⟩).run P w = .ok v w
def Ress (P : Program) (f : Frm) (L : List HP) : List ResultVar → List Value → Prop
  | [], [] => True
  | r :: rs, v :: vs => Res P f L r v ∧ Ress P f L rs vs
  | _, _ => False
def retV : List Value → Value
  | [v] => v
  | vs => .tuple vs.toArray
def endP (P : Program) (rs : List ResultVar) (K : Value → List HP → Prop) : Post
  | .normal, f, L | .ret, f, L => f.ds = [] ∧ ∃ vs, Ress P f L rs vs ∧ K (retV vs) L
  | _, _, _ => False

def rv (tmps : Array Value) : ResultVar → Sem Value
  | .tmp t => pure (tmps.getD t undef)
  | .cell p t => do loadVar t (← asAddr (tmps.getD p undef))
theorem ress_run {P : Program} {N : Nat} {f : Frm} {L : List HP} {a : Act} (r : Rep N a f) {Fr : List HP} {w : World} (x : Has (L ++ Fr) (heapOf w)) : ∀ {rs : List ResultVar} {vs : List Value}, Ress P f L rs vs →
    (rs.mapM (rv a.tmps)).run P w = .ok vs w
  | [], [], _ => by simp
  | [], _ :: _, h => h.elim
  | _ :: _, [], h => h.elim
  | r0 :: rs, v :: vs, h => by
    have ih := ress_run r x h.2
    have h1 := h.1
    have h0 : (rv a.tmps r0).run P w = .ok v w := by
      cases r0 with
      | tmp t => simp only [Res] at h1; simp only [rv, Sem.run_pure, r.get t, h1]
      | cell p t =>
        obtain ⟨b, off, hp, hl⟩ := h1
        simp only [rv, r.get p, hp, asAddr, Sem.run_bind, Sem.run_pure, Result.andThen_ok, hl Fr w x]
    rw [List.mapM_cons, Sem.run_bind, h0, Result.andThen_ok, Sem.run_bind, ih, Result.andThen_ok, Sem.run_pure]
theorem results_run {P : Program} {N : Nat} {f : Frm} {L : List HP} {a : Act} {fn : Func} (r : Rep N a f) {Fr : List HP} {w : World} (x : Has (L ++ Fr) (heapOf w)) {rs : List ResultVar} (hr : fn.results = rs.toArray) {vs : List Value} (h : Ress P f L rs vs) :
    (results fn a.tmps).run P w = .ok (retV vs) w := by
  have e : results fn a.tmps = (do let vs ← fn.results.mapM (rv a.tmps); pure (if h : vs.size = 1 then vs[0] else .tuple vs)) := rfl
  rw [e, hr, Sem.run_bind, List.mapM_toArray]
  simp only [Sem.run_map, ress_run r x h, Result.andThen_ok, Sem.run_pure]
  match vs with
  | [] => rfl
  | [v] => rfl
  | _ :: _ :: _ => simp [retV]

/-- A function's contract, out of its body. -/
theorem Tri.of {P : Program} {g : FuncId} {fn : Func} {c : Code} {args : List Value} {K : Value → List HP → Prop} {L : List HP} {N : Nat} {rs : List ResultVar} (hf : P.funcs[g]? = some fn) (hb : fn.body = some c)
    (hN : args.length + (fn.ntmps - args.length) = N) (hr : fn.results = rs.toArray) (h : W P N none c (endP P rs K) (ini args) L) : Tri P g args.toArray K L := by
  subst hN
  intro Fr w x
  refine calls_FW (ro := none) (n := 0) (callsIn_of_wp hf hb trivial (wpIn_mono (h Fr w _ (rep_ini args fn.ntmps) x) ?_) rfl)
  rintro e a w' ⟨f', L', r', q, y, kp, kt⟩
  cases e with
  | normal => obtain ⟨hd, vs, h1, h2⟩ := q; exact ⟨r'.ds.trans hd, _, results_run r' y hr h1, _, L', rfl, h2, y, kp⟩
  | ret => obtain ⟨hd, vs, h1, h2⟩ := q; exact ⟨r'.ds.trans hd, _, results_run r' y hr h1, _, L', rfl, h2, y, kp⟩
  | _ => exact q.elim
end Go.SL
