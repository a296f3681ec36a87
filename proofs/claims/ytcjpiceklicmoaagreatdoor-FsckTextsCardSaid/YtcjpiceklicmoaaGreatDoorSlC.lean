/- SL 12: what can be read, whoever holds it; calls that hand back less; the ends of functions. -/
import Derived.Test.YtcjpiceklicmoaaGreatDoorSlB
namespace Go.SL
set_option linter.unusedVariables false
set_option linter.unusedSimpArgs false

/-! ### Drop items -/
theorem Ent.drop {A : HP} {L M : List HP} (e : Ent L M) : Ent (A :: L) M := fun h x => e h x.tail
theorem tk0 {L R : List HP} {A : HP} (h : Tk L A R := by exact Tk.here) : Tk L A R := h
theorem tk1 {L R : List HP} {A : HP} (h : Tk L A R := by first | exact Tk.here | exact Tk.there tk0) : Tk L A R := h
theorem tk2 {L R : List HP} {A : HP} (h : Tk L A R := by first | exact Tk.here | exact Tk.there tk1) : Tk L A R := h
theorem tk3 {L R : List HP} {A : HP} (h : Tk L A R := by first | exact Tk.here | exact Tk.there tk2) : Tk L A R := h
theorem tk4 {L R : List HP} {A : HP} (h : Tk L A R := by first | exact Tk.here | exact Tk.there tk3) : Tk L A R := h
theorem tk5 {L R : List HP} {A : HP} (h : Tk L A R := by first | exact Tk.here | exact Tk.there tk4) : Tk L A R := h
theorem tk6 {L R : List HP} {A : HP} (h : Tk L A R := by first | exact Tk.here | exact Tk.there tk5) : Tk L A R := h
theorem tk7 {L R : List HP} {A : HP} (h : Tk L A R := by first | exact Tk.here | exact Tk.there tk6) : Tk L A R := h
theorem tk8 {L R : List HP} {A : HP} (h : Tk L A R := by first | exact Tk.here | exact Tk.there tk7) : Tk L A R := h
theorem tk9 {L R : List HP} {A : HP} (h : Tk L A R := by first | exact Tk.here | exact Tk.there tk8) : Tk L A R := h
theorem tk10 {L R : List HP} {A : HP} (h : Tk L A R := by first | exact Tk.here | exact Tk.there tk9) : Tk L A R := h
theorem tk11 {L R : List HP} {A : HP} (h : Tk L A R := by first | exact Tk.here | exact Tk.there tk10) : Tk L A R := h
theorem tk12 {L R : List HP} {A : HP} (h : Tk L A R := by first | exact Tk.here | exact Tk.there tk11) : Tk L A R := h
theorem tk13 {L R : List HP} {A : HP} (h : Tk L A R := by first | exact Tk.here | exact Tk.there tk12) : Tk L A R := h
theorem tk14 {L R : List HP} {A : HP} (h : Tk L A R := by first | exact Tk.here | exact Tk.there tk13) : Tk L A R := h
theorem tk15 {L R : List HP} {A : HP} (h : Tk L A R := by first | exact Tk.here | exact Tk.there tk14) : Tk L A R := h
theorem tk16 {L R : List HP} {A : HP} (h : Tk L A R := by first | exact Tk.here | exact Tk.there tk15) : Tk L A R := h
theorem tk17 {L R : List HP} {A : HP} (h : Tk L A R := by first | exact Tk.here | exact Tk.there tk16) : Tk L A R := h
theorem tk18 {L R : List HP} {A : HP} (h : Tk L A R := by first | exact Tk.here | exact Tk.there tk17) : Tk L A R := h
theorem tk19 {L R : List HP} {A : HP} (h : Tk L A R := by first | exact Tk.here | exact Tk.there tk18) : Tk L A R := h
theorem tk20 {L R : List HP} {A : HP} (h : Tk L A R := by first | exact Tk.here | exact Tk.there tk19) : Tk L A R := h
theorem tk21 {L R : List HP} {A : HP} (h : Tk L A R := by first | exact Tk.here | exact Tk.there tk20) : Tk L A R := h
theorem tk22 {L R : List HP} {A : HP} (h : Tk L A R := by first | exact Tk.here | exact Tk.there tk21) : Tk L A R := h
theorem tk23 {L R : List HP} {A : HP} (h : Tk L A R := by first | exact Tk.here | exact Tk.there tk22) : Tk L A R := h
theorem tk {L R : List HP} {A : HP} (h : Tk L A R := by first | exact Tk.here | exact Tk.there tk23) : Tk L A R := h
/-- The target has a first item. -/
theorem Ent.isC {L M : List HP} {A : HP} (h : Ent L (A :: M)) : Ent L (A :: M) := h
/-- Items in another order, and fewer. -/
theorem ent {L M : List HP} (h : Ent L M := by (try simp only [List.cons_append, List.nil_append, List.append_assoc]); repeat (first | exact Ent.refl _ | exact Ent.nil _ | (refine Ent.isC ?_; refine Ent.take tk ?_) | refine Ent.drop ?_)) : Ent L M := h

/-! ### What can be read -/
/-- a leads to n elements of sz cells each, the cells xs. -/
def RdS (sz : Nat) (a : Option Addr) (n : Nat) (xs : List Value) (L : List HP) : Prop :=
  xs.length = n * sz ∧ (n ≠ 0 → ∃ b off, a = some ⟨b, off, none⟩) ∧
  ∀ b off, a = some ⟨b, off, none⟩ → n ≠ 0 → ∀ h, Has L h → ∃ l T fr, h b = some (.cells (l : List Value).toArray T fr) ∧ off + n * sz ≤ l.length ∧ lsub l off (n * sz) = xs
theorem RdS.len {sz n : Nat} {a : Option Addr} {xs : List Value} {L : List HP} (r : RdS sz a n xs L) : xs.length = n * sz := r.1
theorem RdS.at {sz n : Nat} {a : Option Addr} {xs : List Value} {L : List HP} (r : RdS sz a n xs L) (h : n ≠ 0) : ∃ b off, a = some ⟨b, off, none⟩ := r.2.1 h
theorem RdS.cons {sz n : Nat} {a : Option Addr} {xs : List Value} {A : HP} {L : List HP} (r : RdS sz a n xs L) : RdS sz a n xs (A :: L) :=
  ⟨r.1, r.2.1, fun b off e h0 h x => r.2.2 b off e h0 h x.tail⟩
theorem RdS.ent {sz n : Nat} {a : Option Addr} {xs : List Value} {L M : List HP} (e : Ent L M) (r : RdS sz a n xs M) : RdS sz a n xs L :=
  ⟨r.1, r.2.1, fun b off e' h0 h x => r.2.2 b off e' h0 h (e h x)⟩
theorem RdS.nil {sz : Nat} {a : Option Addr} {L : List HP} : RdS sz a 0 [] L := ⟨by simp, fun h => absurd rfl h, fun _ _ _ h => absurd rfl h⟩
theorem lsub_length (l : List Value) (k n : Nat) (h : k + n ≤ l.length) : (lsub l k n).length = n := by rw [← cellsAt_lsub l k n h, cellsAt_length]
theorem RdS.row {sz n b off : Nat} {l : List Value} {T : TypeId} {fr : Nat × Nat} {L : List HP} [r : Rd L b (.cells l.toArray T fr)] (h : off + n * sz ≤ l.length) : RdS sz (some ⟨b, off, none⟩) n (lsub l off (n * sz)) L :=
  ⟨lsub_length _ _ _ h, fun _ => ⟨b, off, rfl⟩, fun b' off' e _ k x => by injection e with e; injection e with e1 e2; subst e1; subst e2; exact ⟨l, T, fr, r.rd k x, h, rfl⟩⟩
theorem lsub_zero (l sp : List Value) : lsub (l ++ sp) 0 l.length = l := by rw [← cellsAt_lsub _ 0 _ (by simp), cellsAt_zero]
theorem RdS.all {sz n b : Nat} {l : List Value} {T : TypeId} {fr : Nat × Nat} {L : List HP} [r : Rd L b (.cells l.toArray T fr)] (h : l.length = n * sz) : RdS sz (some ⟨b, 0, none⟩) n l L := by
  have := RdS.row (sz := sz) (n := n) (b := b) (off := 0) (l := l) (T := T) (fr := fr) (L := L) (by omega)
  have e := lsub_zero l []
  rw [List.append_nil, h] at e
  rw [e] at this; exact this
theorem RdS.own {E sz n c : Nat} {a : Option Addr} {xs : List Value} {L R : List HP} (t : Tk L (Own E sz (.slice a n c) n xs) R) (ha : n ≠ 0 → ∃ b, a = some ⟨b, 0, none⟩) (hl : xs.length = n * sz) : RdS sz a n xs L := by
  refine ⟨hl, fun h => let ⟨b, e⟩ := ha h; ⟨b, 0, e⟩, fun b off e h0 h x => ?_⟩
  rcases has_own (t h x) with ⟨h1, h2, _⟩ | ⟨b', cap, sp, fr, ⟨h1, h2, h3, h4, h5⟩, y⟩
  · exact absurd h2 h0
  · injection h1 with h6 h7 h8
    subst h6
    injection e with e; injection e with e1 e2; subst e1; subst e2
    refine ⟨xs ++ sp, E, fr, has_pts y, by simp; omega, ?_⟩
    rw [← h3, lsub_zero]
theorem RdS.ro {sz n b off : Nat} {h0 : PH} {l : List Value} {T : TypeId} {fr : Nat × Nat} {L : List HP} (e : h0 b = some (.cells l.toArray T fr)) (h : off + n * sz ≤ l.length) (t : Ent L [ro h0]) : RdS sz (some ⟨b, off, none⟩) n (lsub l off (n * sz)) L :=
  ⟨lsub_length _ _ _ h, fun _ => ⟨b, off, rfl⟩, fun b' off' e' _ k x => by
    injection e' with e'; injection e' with e1 e2; subst e1; subst e2
    obtain ⟨h1, h2, d, s1, s2, q, _⟩ := t k x
    exact ⟨l, T, fr, s1 _ _ (q _ _ e), h, rfl⟩⟩
theorem rds0 {sz n : Nat} {a : Option Addr} {xs : List Value} {L : List HP} (h : RdS sz a n xs L := by assumption) : RdS sz a n xs L := h
theorem rds1 {sz n : Nat} {a : Option Addr} {xs : List Value} {L : List HP} (h : RdS sz a n xs L := by first | assumption | exact RdS.cons rds0) : RdS sz a n xs L := h
theorem rds2 {sz n : Nat} {a : Option Addr} {xs : List Value} {L : List HP} (h : RdS sz a n xs L := by first | assumption | exact RdS.cons rds1) : RdS sz a n xs L := h
theorem rds3 {sz n : Nat} {a : Option Addr} {xs : List Value} {L : List HP} (h : RdS sz a n xs L := by first | assumption | exact RdS.cons rds2) : RdS sz a n xs L := h
theorem rds4 {sz n : Nat} {a : Option Addr} {xs : List Value} {L : List HP} (h : RdS sz a n xs L := by first | assumption | exact RdS.cons rds3) : RdS sz a n xs L := h
theorem rds5 {sz n : Nat} {a : Option Addr} {xs : List Value} {L : List HP} (h : RdS sz a n xs L := by first | assumption | exact RdS.cons rds4) : RdS sz a n xs L := h
theorem rds6 {sz n : Nat} {a : Option Addr} {xs : List Value} {L : List HP} (h : RdS sz a n xs L := by first | assumption | exact RdS.cons rds5) : RdS sz a n xs L := h
theorem rds7 {sz n : Nat} {a : Option Addr} {xs : List Value} {L : List HP} (h : RdS sz a n xs L := by first | assumption | exact RdS.cons rds6) : RdS sz a n xs L := h
theorem rds8 {sz n : Nat} {a : Option Addr} {xs : List Value} {L : List HP} (h : RdS sz a n xs L := by first | assumption | exact RdS.cons rds7) : RdS sz a n xs L := h
theorem rds9 {sz n : Nat} {a : Option Addr} {xs : List Value} {L : List HP} (h : RdS sz a n xs L := by first | assumption | exact RdS.cons rds8) : RdS sz a n xs L := h
theorem rds10 {sz n : Nat} {a : Option Addr} {xs : List Value} {L : List HP} (h : RdS sz a n xs L := by first | assumption | exact RdS.cons rds9) : RdS sz a n xs L := h
theorem rds11 {sz n : Nat} {a : Option Addr} {xs : List Value} {L : List HP} (h : RdS sz a n xs L := by first | assumption | exact RdS.cons rds10) : RdS sz a n xs L := h
theorem rds12 {sz n : Nat} {a : Option Addr} {xs : List Value} {L : List HP} (h : RdS sz a n xs L := by first | assumption | exact RdS.cons rds11) : RdS sz a n xs L := h
theorem rds13 {sz n : Nat} {a : Option Addr} {xs : List Value} {L : List HP} (h : RdS sz a n xs L := by first | assumption | exact RdS.cons rds12) : RdS sz a n xs L := h
theorem rds14 {sz n : Nat} {a : Option Addr} {xs : List Value} {L : List HP} (h : RdS sz a n xs L := by first | assumption | exact RdS.cons rds13) : RdS sz a n xs L := h
theorem rds15 {sz n : Nat} {a : Option Addr} {xs : List Value} {L : List HP} (h : RdS sz a n xs L := by first | assumption | exact RdS.cons rds14) : RdS sz a n xs L := h
theorem rds16 {sz n : Nat} {a : Option Addr} {xs : List Value} {L : List HP} (h : RdS sz a n xs L := by first | assumption | exact RdS.cons rds15) : RdS sz a n xs L := h
theorem rds17 {sz n : Nat} {a : Option Addr} {xs : List Value} {L : List HP} (h : RdS sz a n xs L := by first | assumption | exact RdS.cons rds16) : RdS sz a n xs L := h
theorem rds18 {sz n : Nat} {a : Option Addr} {xs : List Value} {L : List HP} (h : RdS sz a n xs L := by first | assumption | exact RdS.cons rds17) : RdS sz a n xs L := h
theorem rds19 {sz n : Nat} {a : Option Addr} {xs : List Value} {L : List HP} (h : RdS sz a n xs L := by first | assumption | exact RdS.cons rds18) : RdS sz a n xs L := h
theorem rds20 {sz n : Nat} {a : Option Addr} {xs : List Value} {L : List HP} (h : RdS sz a n xs L := by first | assumption | exact RdS.cons rds19) : RdS sz a n xs L := h
theorem rds21 {sz n : Nat} {a : Option Addr} {xs : List Value} {L : List HP} (h : RdS sz a n xs L := by first | assumption | exact RdS.cons rds20) : RdS sz a n xs L := h
theorem rds22 {sz n : Nat} {a : Option Addr} {xs : List Value} {L : List HP} (h : RdS sz a n xs L := by first | assumption | exact RdS.cons rds21) : RdS sz a n xs L := h
theorem rds23 {sz n : Nat} {a : Option Addr} {xs : List Value} {L : List HP} (h : RdS sz a n xs L := by first | assumption | exact RdS.cons rds22) : RdS sz a n xs L := h
theorem rds {sz n : Nat} {a : Option Addr} {xs : List Value} {L : List HP} (h : RdS sz a n xs L := by first | assumption | exact RdS.cons rds23) : RdS sz a n xs L := h

theorem lsub_take (l : List Value) (off n k : Nat) (h : off + n ≤ l.length) (hk : k ≤ n) : (lsub l off n).take k = lsub l off k := by
  rw [← cellsAt_lsub l off n h, cellsAt_take _ _ _ _ hk, cellsAt_lsub l off k (by omega)]
theorem RdS.srcK {P : Program} {sz n c : Nat} {a : Option Addr} {xs : List Value} {L : List HP} (r : RdS sz a n xs L) : SrcK P sz (.slice a n c) n xs L := by
  refine ⟨fun _ => rfl, r.len, fun k hk Fr w x => ?_⟩
  by_cases h0 : n = 0
  · subst h0
    have : k = 0 := by omega
    subst this
    have hx : xs = [] := List.eq_nil_of_length_eq_zero (by rw [r.len]; simp)
    subst hx
    cases a with
    | none => simp [Builtin.firstCells]
    | some a => simp [Builtin.firstCells, loadCells, loadCellsFrom]
  · obtain ⟨b, off, rfl⟩ := r.at h0
    obtain ⟨h1, h2, d, s1, s2, q, _⟩ := has_append.1 x
    obtain ⟨l, T, fr, e1, e2, e3⟩ := r.2.2 b off rfl h0 h1 q
    have h4 : k * sz ≤ n * sz := Nat.mul_le_mul_right _ hk
    simp only [Builtin.firstCells]
    rw [run_loadCells (s1 _ _ e1) (by simp; omega), cellsAt_lsub l off _ (by omega), ← e3, lsub_take l off _ _ e2 h4]
theorem RdS.src {P : Program} {sz n c : Nat} {a : Option Addr} {xs : List Value} {L : List HP} (r : RdS sz a n xs L) : Src P sz (.slice a n c) n xs L := by
  obtain ⟨h1, h2, h3⟩ := r.srcK (P := P) (c := c)
  refine ⟨h1, fun Fr w x => ?_⟩
  have := h3 n (Nat.le_refl _) Fr w x
  rwa [List.take_of_length_le (by omega)] at this

section
variable {P : Program} {ro : Option Nat} {f : Frm} {L : List HP} {d : Option Nat} {ty : TypeId} {ps : String} {af : Array Edge} {gu : Option (Nat × Bool)} {K : Value → List HP → Prop}

theorem lsub_get (l : List Value) (off n j : Nat) (h : off + n ≤ l.length) (hj : j < n) : (lsub l off n)[j]? = l[off + j]? := by
  rw [← cellsAt_lsub l off n h, cellsAt_get _ _ _ _ hj]
  have : off + j < l.length := by omega
  simp [this]
theorem RdS.nz {sz n : Nat} {a : Option Addr} {xs : List Value} {j : Nat} (r : RdS sz a n xs L) (hj : j < xs.length) : n ≠ 0 := fun h0 => by
  have := r.len
  rw [h0, Nat.zero_mul] at this; omega
/-- One cell of what can be read. -/
theorem SV.loadR {t sz n off b o : Nat} {x : Operand} {xs : List Value} {v : Value} (j : Nat) (hx : f.ev x = .pointer (some ⟨b, o, none⟩)) [ht : TA P t false] (r : RdS sz (some ⟨b, off, none⟩) n xs L) (ho : o = off + j) (hj : xs[j]? = some v) (h : K v L) :
    SV P ro ⟨d, .load t x, ty, ps, af, gu⟩ f K L := by
  subst ho
  refine (SV.val (Instr.loadAt t (f.ev x)) (by intro c h; cases h) rfl ?_)
  rw [hx]
  have hjl : j < xs.length := (List.getElem?_eq_some_iff.1 hj).1
  have hn := r.nz hjl
  refine SW.bind (SW.pure (SW.bind (SW.isAgg ht.h (SW.runs (a := v) (fun Fr w x => ?_) h))))
  obtain ⟨h1, h2, d', s1, s2, q, _⟩ := has_append.1 x
  obtain ⟨l, T, fr, e1, e2, e3⟩ := r.2.2 b off rfl hn h1 q
  have e4 : heapOf w b = some (.cells l.toArray T fr) := s1 _ _ e1
  have e5 : l[off + j]? = some v := by
    rw [← lsub_get l off (n * sz) j e2 (by rw [← r.len]; exact hjl), e3]; exact hj
  simp [cell_of e4, e5]
theorem lsub_lsub (l : List Value) (off n j k : Nat) (h : off + n ≤ l.length) (hj : j + k ≤ n) : lsub (lsub l off n) j k = lsub l (off + j) k := by
  rw [lsub_eq, lsub_eq, lsub_eq, List.drop_take, List.take_take, List.drop_drop, Nat.min_eq_left (by omega)]
/-- Some cells of what can be read. -/
theorem SV.loadRN {t sz n off b o k : Nat} {x : Operand} {xs vs : List Value} (j : Nat) (hx : f.ev x = .pointer (some ⟨b, o, none⟩)) [ht : TA P t true] [hs : TS P t k] (r : RdS sz (some ⟨b, off, none⟩) n xs L) (ho : o = off + j) (h0 : k ≠ 0) (hk : j + k ≤ xs.length) (hj : lsub xs j k = vs) (h : K (.agg vs.toArray) L) :
    SV P ro ⟨d, .load t x, ty, ps, af, gu⟩ f K L := by
  subst ho
  refine (SV.val (Instr.loadAt t (f.ev x)) (by intro c h; cases h) rfl ?_)
  rw [hx]
  have hn := r.nz (j := j) (by omega)
  refine SW.bind (SW.pure (SW.bind (SW.isAgg ht.h (SW.bind (SW.sizeOf hs.h (SW.bind (SW.runs (a := vs.toArray) (fun Fr w x => ?_) (SW.pure h))))))))
  obtain ⟨h1, h2, d', s1, s2, q, _⟩ := has_append.1 x
  obtain ⟨l, T, fr, e1, e2, e3⟩ := r.2.2 b off rfl hn h1 q
  have e4 : heapOf w b = some (.cells l.toArray T fr) := s1 _ _ e1
  have hl := r.len
  rw [run_loadCells e4 (by simp; omega), cellsAt_lsub l (off + j) k (by omega), ← hj, ← e3, lsub_lsub l off (n * sz) j k e2 (by omega)]
theorem SV.storeO {t E sz n c b o : Nat} {x y : Operand} {xs xs' : List Value} {v : Value} {R : List HP} (j : Nat) (hx : f.ev x = .pointer (some ⟨b, o, none⟩)) [hs : TS P t 1] (k : Tk L (Own E sz (.slice (some ⟨b, 0, none⟩) n c) n xs) R) (ho : o = j)
    (hy : f.ev y = v) (hv : isCell v = true) (hn : j < xs.length) (he : xs.set j v = xs') (h : K undef (Own E sz (.slice (some ⟨b, 0, none⟩) n c) n xs' :: R)) : SV P ro ⟨d, .store t x y, ty, ps, af, gu⟩ f K L := by
  subst ho; subst he
  intro Fr w x
  rcases has_own (k.app Fr _ x) with ⟨h1, h2, h3⟩ | ⟨b', cap, sp, fr, ⟨h1, h2, h3, h4, h5⟩, y'⟩
  · subst h3; simp at hn
  · injection h1 with h6 h7 h8; injection h6 with h6; injection h6 with h6
    subst h6; subst h8
    have hsz : n * sz ≤ c * sz := Nat.mul_le_mul_right _ h2
    have := @SV.storeS P ro f (pts b (.cells (xs ++ sp).toArray E fr) :: R) d ty ps af gu (fun u L' => u = undef ∧ L' = pts b (.cells ((xs ++ sp).set o v).toArray E fr) :: R) t _ _ b o (xs ++ sp) E fr _ v hx hs inferInstance inferInstance hy hv (by omega) (by simp; omega) ⟨rfl, rfl⟩
    obtain ⟨r, w', L', q1, ⟨u, q2, q3, q4⟩, q5, q6⟩ := this Fr w y'
    subst q3; subst q4
    refine ⟨r, w', _, q1, ⟨undef, q2, h⟩, ?_, q6⟩
    refine own_of ⟨rfl, h2, by simpa using h3, h4, h5⟩ ?_
    rw [List.set_append_left _ _ hn] at q5
    exact q5
end

/-- Code, and what is left: cut in two at what is known between them (m: what the code may have written). -/
theorem W.cut {P : Program} {N : Nat} {ro : Option Nat} {x y : Code} {Q Q' : Post} {f : Frm} {L : List HP} {σ : Type} (m : Nat) (hm : mC x = m) (sl : σ → List (Nat × Value)) (H : σ → List HP) (φ : σ → Prop)
    (h1 : W P N ro x (thn (fun f' L' => ∃ s, Told f' (sl s) ∧ f'.ds = f.ds ∧ φ s ∧ Ent L' (H s)) Q) f L)
    (h2 : ∀ s bg, φ s → W P N ro y Q' (over f m bg (sl s)) (H s)) : W P N ro x (thn (fun f' L' => W P N ro y Q' f' L') Q) f L := by
  subst hm
  intro Fr w a r z
  refine wpIn_mono (h1 Fr w a r z) ?_
  rintro e a' w' ⟨f', L', r', q, y', kp, kt⟩
  cases e with
  | normal =>
    obtain ⟨s, ht, hd, hs, he⟩ := q
    refine ⟨f', L', r', ?_, y', kp, kt⟩
    have h := h2 s f'.v hs
    rw [over_eq kt hd ht] at h
    exact W.ent he h
  | exit id => exact ⟨f', L', r', q, y', kp, kt⟩
  | goto l => exact ⟨f', L', r', q, y', kp, kt⟩
  | ret => exact ⟨f', L', r', q, y', kp, kt⟩
  | panic c => exact ⟨f', L', r', q, y', kp, kt⟩
  | outgrown => exact ⟨f', L', r', q, y', kp, kt⟩

/-! ### Calls that hand back less -/
/-- The call ends with a value and items as Q says, or more items. -/
def TriE (P : Program) (g : FuncId) (args : Array Value) (Q : Value → List HP → Prop) (L : List HP) : Prop := Tri P g args (fun v L' => ∃ M, Ent L' M ∧ Q v M) L
theorem TriE.mono {P : Program} {g : FuncId} {args : Array Value} {Q Q' : Value → List HP → Prop} {L : List HP} (t : TriE P g args Q L) (k : ∀ v M, Q v M → Q' v M) : TriE P g args Q' L :=
  Tri.mono t fun v L' ⟨M, e, q⟩ => ⟨M, e, k v M q⟩
theorem ent_app {L M : List HP} (e : Ent L M) (R : List HP) : Ent (L ++ R) (M ++ R) := fun h x => e.app R h x
theorem TriE.frame {P : Program} {g : FuncId} {args : Array Value} {Q : Value → List HP → Prop} {A : List HP} (R : List HP) (t : TriE P g args Q A) : TriE P g args (fun v M => ∃ M', M = M' ++ R ∧ Q v M') (A ++ R) :=
  Tri.mono (Tri.frame R t) fun v L' ⟨L1, e1, M, e, q⟩ => ⟨M ++ R, by rw [e1]; exact ent_app e R, M, rfl, q⟩
theorem TriE.ent {P : Program} {g : FuncId} {args : Array Value} {Q : Value → List HP → Prop} {L A : List HP} (e : Ent L A) (t : TriE P g args Q A) : TriE P g args Q L := Tri.ent e t
section
variable {P : Program} {ro : Option Nat} {f : Frm} {L : List HP} {d : Option Nat} {ty : TypeId} {ps : String} {af : Array Edge} {gu : Option (Nat × Bool)}
variable {N : Nat} {all : Array Oper} {rest : List Oper} {Post : Post} {g : FuncId} {fn : Func} {c : Code} {as : List Operand} {ts : Array TypeId} {vs : List Value} {Q : Value → List HP → Prop}
theorem OW.callE {next : Frm → List HP → Prop} (hf : P.funcs[g]? = some fn) (hb : fn.body = some c) (hn : (fn.name == "runtime.NumGoroutine") = false)
    (hv : as.map f.ev = vs) (t : TriE P g vs.toArray Q L) (h : ∀ v L', (∃ M, Ent L' M ∧ Q v M) → next (f.putO d v) L') :
    OW P ro ⟨d, .call { callee := .value (.func g), args := as.toArray, argTypes := ts }, ty, ps, af, gu⟩ f next L :=
  OW.call hf hb hn (by simpa using hv) (Tri.mono t h)
theorem WO.callE (hf : P.funcs[g]? = some fn) (hb : fn.body = some c) (hn : (fn.name == "runtime.NumGoroutine") = false)
    (hv : as.map f.ev = vs) (hd : dOk N d = true) (t : TriE P g vs.toArray Q L) (h : ∀ v M, Q v M → WO P N ro all rest Post (f.putO d v) M) :
    WO P N ro all (⟨d, .call { callee := .value (.func g), args := as.toArray, argTypes := ts }, ty, ps, af, none⟩ :: rest) Post f L :=
  WO.op hd (OW.callE hf hb hn hv t fun v L' ⟨M, e, q⟩ => WO.ent e (h v M q))
/-- The same, where the callee takes some of the items. -/
theorem WO.callF {A R : List HP} (hf : P.funcs[g]? = some fn) (hb : fn.body = some c) (hn : (fn.name == "runtime.NumGoroutine") = false)
    (hv : as.map f.ev = vs) (hd : dOk N d = true) (t : TriE P g vs.toArray Q A) (e : Ent L (A ++ R)) (h : ∀ v M, Q v M → WO P N ro all rest Post (f.putO d v) (M ++ R)) :
    WO P N ro all (⟨d, .call { callee := .value (.func g), args := as.toArray, argTypes := ts }, ty, ps, af, none⟩ :: rest) Post f L :=
  WO.callE hf hb hn hv hd ((t.frame R).ent e) fun v M ⟨M', e, q⟩ => e ▸ h v M' q
/-- A call in a region that draws its order. -/
theorem DB.callE {D : Nat → Bool} {bf : Array Nat} {i : Nat} {S : St} {R : List Oper} {H A M : List HP} {K : Frm → List HP → Prop} {gu : Option (Nat × Bool)} (hf : P.funcs[g]? = some fn) (hb : fn.body = some c) (hn : (fn.name == "runtime.NumGoroutine") = false)
    (hv : as.map f.ev = vs) (hw : wF all f ⟨d, .call { callee := .value (.func g), args := as.toArray, argTypes := ts }, ty, ps, af, gu⟩ = true) (hA : al S = A) (hM : A ++ H = M) (t : TriE P g vs.toArray Q M)
    (k : ∀ v M', Q v M' → ∃ B H', Ent M' (A ++ B ++ H') ∧ DB P ro D all K bf (i + 1) (S ++ tag i B) R (f.putO d v) H') :
    DB P ro D all K bf i S (⟨d, .call { callee := .value (.func g), args := as.toArray, argTypes := ts }, ty, ps, af, gu⟩ :: R) f H :=
  DB.e rfl rfl hw hA (hM ▸ Ent.refl _) (OW.callE hf hb hn hv t fun v L' ⟨M', e', q⟩ => let ⟨B, H', e2, h⟩ := k v M' q; ⟨B, H', e'.trans e2, h⟩)
theorem DA.callE {R : List Oper} {H M : List HP} {K : Frm → List HP → Prop} {gu : Option (Nat × Bool)} (hf : P.funcs[g]? = some fn) (hb : fn.body = some c) (hn : (fn.name == "runtime.NumGoroutine") = false)
    (hv : as.map f.ev = vs) (hw : wF all f ⟨d, .call { callee := .value (.func g), args := as.toArray, argTypes := ts }, ty, ps, af, gu⟩ = true) (t : TriE P g vs.toArray Q H)
    (k : ∀ v L' M', Ent L' M' → Q v M' → DA P ro all K R (f.putO d v) L') :
    DA P ro all K (⟨d, .call { callee := .value (.func g), args := as.toArray, argTypes := ts }, ty, ps, af, gu⟩ :: R) f H :=
  DA.e rfl rfl hw (OW.callE hf hb hn hv t fun v L' ⟨M', e', q⟩ => k v L' M' e' q)
/-- What acts without a call. -/
theorem DB.v {D : Nat → Bool} {bf : Array Nat} {i : Nat} {S : St} {R : List Oper} {H A M : List HP} {K : Frm → List HP → Prop} {op : Op} {gu : Option (Nat × Bool)} (hq : isQ op = false) (ha : isA op = false) (hw : wF all f ⟨d, op, ty, ps, af, gu⟩ = true) (hA : al S = A) (hM : A ++ H = M)
    (h : SV P ro ⟨d, op, ty, ps, af, gu⟩ f (fun v L' => ∃ B H', Ent L' (A ++ B ++ H') ∧ DB P ro D all K bf (i + 1) (S ++ tag i B) R (f.putO d v) H') M) : DB P ro D all K bf i S (⟨d, op, ty, ps, af, gu⟩ :: R) f H :=
  DB.e hq ha hw hA (hM ▸ Ent.refl _) (OW.sv h)
theorem DA.v {R : List Oper} {H : List HP} {K : Frm → List HP → Prop} {op : Op} {gu : Option (Nat × Bool)} (hq : isQ op = false) (ha : isA op = false) (hw : wF all f ⟨d, op, ty, ps, af, gu⟩ = true)
    (h : SV P ro ⟨d, op, ty, ps, af, gu⟩ f (fun v L' => DA P ro all K R (f.putO d v) L') H) : DA P ro all K (⟨d, op, ty, ps, af, gu⟩ :: R) f H :=
  DA.e hq ha hw (OW.sv h)
end
end Go.SL
