/- Bytes compared; rows of wide elements, written and cut. Generic in the program. -/
import Derived.Test.YtcjpiceklicmoaaGreatDoorSlM
import Derived.Test.YtcjpiceklicmoaaGreatDoorSlT
import Derived.Lib.Bytealg
namespace Go.SL
set_option linter.unusedVariables false
set_option linter.unusedSimpArgs false
set_option linter.unusedSectionVars false
section
variable {P : Program} {ro : Option Nat} {f : Frm} {L R : List HP} {d : Option Nat} {ty : TypeId} {ps : String} {af : Array Edge} {gu : Option (Nat × Bool)} {K : Value → List HP → Prop}
theorem run_loadBytesL {w : World} : ∀ (bs : List UInt8) (b off : Nat) (acc : ByteArray), (∀ j x, bs[j]? = some x → w.cell? ⟨b, off + j, none⟩ = some (u8V x)) →
    (Extern.Bytes.loadBytes ⟨b, off, none⟩ bs.length acc).run P w = .ok ⟨acc.data ++ bs.toArray⟩ w
  | [], b, off, acc, _ => by simp [Extern.Bytes.loadBytes]
  | x :: l, b, off, acc, h => by
    have h0 : w.cell? ⟨b, off, none⟩ = some (.int .u8 x.toNat) := h 0 x rfl
    have ih := run_loadBytesL l b (off + 1) (acc.push x) (fun j y hy => by
      have := h (j + 1) y (by simpa using hy)
      rw [show off + 1 + j = off + (j + 1) by omega]; exact this)
    have e : (⟨b, off, none⟩ : Addr).add 1 = ⟨b, off + 1, none⟩ := by simp [Addr.add]
    have ex : (x.toNat : Int).toNat.toUInt8 = x := UInt8.toNat_inj.1 (by simp)
    simp only [List.length_cons, Extern.Bytes.loadBytes, Sem.run_bind, run_load, h0, Result.andThen, e, ex]
    rw [ih]
    congr 1
    apply ByteArray.ext
    simp [ByteArray.push]
theorem RdS.bytes {a : Option Addr} {n c : Nat} {bs : List UInt8} (r : RdS 1 a n (bs.map u8V) L) {Fr : List HP} {w : World} (x : Has (L ++ Fr) (heapOf w)) : (Extern.Bytes.bytesOf (.slice a n c)).run P w = .ok ⟨bs.toArray⟩ w := by
  have hl := r.len
  rw [List.length_map, Nat.mul_one] at hl
  subst hl
  cases a with
  | none =>
    have h0 : bs.length = 0 := Classical.byContradiction fun h0 => by obtain ⟨b, off, e⟩ := r.at h0; cases e
    have : bs = [] := List.eq_nil_of_length_eq_zero h0
    subst this; rfl
  | some a =>
    by_cases h0 : bs.length = 0
    · have : bs = [] := List.eq_nil_of_length_eq_zero h0
      subst this; rfl
    · obtain ⟨b, off, e⟩ := r.at h0
      injection e with e
      subst e
      obtain ⟨h1, h2, d', s1, s2, q, _⟩ := has_append.1 x
      obtain ⟨l, T, fr, e1, e2, e3⟩ := r.2.2 b off rfl h0 h1 q
      have e4 : heapOf w b = some (.cells l.toArray T fr) := s1 _ _ e1
      rw [Nat.mul_one] at e2 e3
      have := run_loadBytesL (P := P) (w := w) bs b off .empty (fun j y hy => by
        have hj : j < bs.length := (List.getElem?_eq_some_iff.1 hy).1
        rw [cell_of e4]
        have := lsub_get l off bs.length j e2 hj
        rw [e3] at this
        simp only [List.getElem?_toArray]
        rw [← this, List.getElem?_map, hy]; rfl)
      show Sem.run P (Extern.Bytes.loadBytes ⟨b, off, none⟩ bs.length .empty) w = _
      rw [this]
      congr 1
      apply ByteArray.ext
      show (#[] : Array UInt8) ++ bs.toArray = bs.toArray
      simp
theorem SV.compareB {g : FuncId} {fn : Func} {xs' : List Operand} {ts : Array TypeId} {a1 a2 : Option Addr} {n1 c1 n2 c2 : Nat} {xs ys : List UInt8} (hf : P.funcs[g]? = some fn) (hname : (fn.name == "runtime.NumGoroutine") = false) (hb : fn.body.isNone = true)
    (hn : Extern.findNext fn = none) (he : Extern.find fn = some Extern.BytealgCompare.compare) (hv : xs'.map f.ev = [.slice a1 n1 c1, .slice a2 n2 c2]) (r1 : RdS 1 a1 n1 (xs.map u8V) L) (r2 : RdS 1 a2 n2 (ys.map u8V) L) (h : K (.int .i64 (Lib.compareBytes xs ys)) L) :
    SV P ro ⟨d, .call { callee := .value (.func g), args := xs'.toArray, argTypes := ts }, ty, ps, af, gu⟩ f K L := by
  refine SV.ext hf hname hb hn he hv (SW.runs (fun Fr w x => ?_) h)
  have q1 := r1.bytes (P := P) (c := c1) x
  have q2 := r2.bytes (P := P) (c := c2) x
  show Sem.run P (do pure (goInt (Extern.BytealgCompare.cmp (← Extern.Bytes.bytesOf (.slice a1 n1 c1)) (← Extern.Bytes.bytesOf (.slice a2 n2 c2))))) w = _
  simp only [Sem.run_bind, q1, q2, Sem.run_pure, Result.andThen]
  rw [Lib.cmp_eq]
  rfl
theorem SV.eqlBytes {t e n : Nat} {yt : TypeId} {i : TypeInfo} {x y : Operand} {a b : List UInt8} (hx : f.ev x = .agg (a.map u8V).toArray) (hy : f.ev y = .agg (b.map u8V).toArray) (ht : P.underlying t = some (.array n e)) (he : P.underlying e = some (.int .u8))
    (hi : P.info? e = some i) (hC : P.cellsOf e = 1) (hg : P.eqGuardType P.depth t = false) (ha : a.length = n) (hb : b.length = n) (h : K (.bool (decide (a = b))) L) : SV P ro ⟨d, .binOp .eql t x y yt, ty, ps, af, gu⟩ f K L := by
  refine SV.bin hx hy (fun w => ?_) h
  rw [Sem.run_bind, run_eqGuard_agg w _ _ _ _ _ _ hg, Result.andThen_ok, run_eql_struct]
  rw [show (10000 : Nat) = 9999 + 1 from rfl, run_equalIn_array w 9999 _ _ ht hi, hC, eqItems_bytes w he a b (by omega) (List.range n) (fun i hi => by have := List.mem_range.1 hi; omega), Result.andThen_ok]
  congr 2
  rw [decide_eq_decide]
  constructor
  · intro z
    apply List.ext_getElem?
    intro j
    by_cases hj : j < n
    · exact z j (List.mem_range.2 hj)
    · rw [List.getElem?_eq_none (by omega), List.getElem?_eq_none (by omega)]
  · rintro rfl j _; rfl
/-! ### Rows of wide elements -/
theorem lput_app : ∀ (xs sp : List Value) (j : Nat) (vs : List Value), j + vs.length ≤ xs.length → lput (xs ++ sp) j vs = lput xs j vs ++ sp := by
  intro xs sp j vs
  induction xs generalizing j vs with
  | nil =>
    intro h
    have : vs = [] := List.eq_nil_of_length_eq_zero (by simp only [List.length_nil] at h; omega)
    subst this
    rw [lput_nil, lput_nil]
  | cons a xs ih =>
    intro h
    cases j with
    | zero =>
      cases vs with
      | nil => rw [lput_nil, lput_nil]
      | cons v vs =>
        show v :: lput (xs ++ sp) 0 vs = v :: (lput xs 0 vs ++ sp)
        rw [ih 0 vs (by simp at h ⊢; omega)]
    | succ j =>
      cases vs with
      | nil => rw [lput_nil, lput_nil]
      | cons v vs =>
        show a :: lput (xs ++ sp) j (v :: vs) = a :: (lput xs j (v :: vs) ++ sp)
        rw [ih j (v :: vs) (by simp at h ⊢; omega)]
theorem lput_mid3 (C : List Value) : ∀ (A B B' : List Value), B'.length = B.length → lput (A ++ (B ++ C)) A.length B' = A ++ (B' ++ C)
  | [], [], [], _ => by cases C <;> rfl
  | [], x :: B, y :: B', h => by
    have ih := lput_mid3 C [] B B' (by simpa using h)
    simp only [List.nil_append, List.length_nil, List.cons_append, lput] at ih ⊢
    rw [ih]
  | a :: A, B, B', h => by
    have ih := lput_mid3 C A B B' h
    cases B' with
    | nil =>
      have : B = [] := List.eq_nil_of_length_eq_zero h.symm
      subst this
      rfl
    | cons y B' =>
      simp only [List.cons_append, List.length_cons, lput]
      rw [ih]; rfl
theorem SV.storeON {t E sz n c b o k : Nat} {x y : Operand} {xs xs' vs : List Value} {v : Value} (j : Nat) (hx : f.ev x = .pointer (some ⟨b, o, none⟩)) [hs : TS P t k] (kk : Tk L (Own E sz (.slice (some ⟨b, 0, none⟩) n c) n xs) R) (ho : o = j)
    (hy : f.ev y = v) (hvc : Cel v vs) (hk : vs.length = k) (h0 : k ≠ 0) (hv : vs.all isCell = true) (hn : j + k ≤ xs.length) (he : lput xs j vs = xs') (h : K undef (Own E sz (.slice (some ⟨b, 0, none⟩) n c) n xs' :: R)) : SV P ro ⟨d, .store t x y, ty, ps, af, gu⟩ f K L := by
  subst ho; subst he; subst hk
  intro Fr w q
  rcases has_own (kk.app Fr _ q) with ⟨h1, h2, h3⟩ | ⟨b', cap, sp, fr, ⟨h1, h2, h3, h4, h5⟩, y'⟩
  · subst h3; simp only [List.length_nil] at hn; omega
  · injection h1 with h6 h7 h8; injection h6 with h6; injection h6 with h6
    subst h6; subst h8
    have hsz : n * sz ≤ c * sz := Nat.mul_le_mul_right _ h2
    have := @SV.store P ro f (pts b (.cells (xs ++ sp).toArray E fr) :: R) d ty ps af gu (fun u L' => u = undef ∧ L' = pts b (.cells (lput (xs ++ sp) o vs).toArray E fr) :: R) t vs.length _ _ b o (xs ++ sp) (lput (xs ++ sp) o vs) E fr _ v vs hx hs inferInstance inferInstance hy hvc (Nat.beq_refl _) (by cases vs with | nil => exact absurd rfl h0 | cons _ _ => rfl) hv (by omega) (by simp; omega) rfl ⟨rfl, rfl⟩
    obtain ⟨r, w', L', q1, ⟨u, q2, q3, q4⟩, q5, q6⟩ := this Fr w y'
    subst q3; subst q4
    refine ⟨r, w', _, q1, ⟨undef, q2, h⟩, ?_, q6⟩
    refine own_of ⟨rfl, h2, by rw [lput_length]; exact h3, h4, h5⟩ ?_
    rw [lput_app xs sp o vs hn] at q5
    exact q5
/-- The row's last elements are given up. -/
theorem own_shrink {E sz n m : Nat} {a : Option Addr} {c : Nat} {xs ys : List Value} (hm : xs.length = m * sz) (h0 : m ≠ 0) (hn : m ≤ n) : Ent (Own E sz (.slice a n c) n (xs ++ ys) :: L) (Own E sz (.slice a m c) m xs :: L) := fun h x => by
  rcases has_own x with ⟨h1, h2, h3⟩ | ⟨b', cap, sp, fr, ⟨h1, h2, h3, h4, h5⟩, y'⟩
  · omega
  · injection h1 with h6 h7 h8
    subst h6; subst h8
    have : n * sz ≤ c * sz := Nat.mul_le_mul_right _ h2
    have : m * sz ≤ n * sz := Nat.mul_le_mul_right _ hn
    rw [List.append_assoc] at y'
    refine own_of (sp := ys ++ sp) ⟨rfl, Nat.le_trans hn h2, hm, ?_, h5⟩ y'
    rw [List.length_append] at h3 ⊢
    rw [Nat.sub_mul] at h4 ⊢
    omega
theorem SV.clearO {t E sz n c b o m c' : Nat} {x : Operand} {z xs ys : List Value} (hx : f.ev x = .slice (some ⟨b, o, none⟩) m c') [he : TU P t (.slice E)] [hz : TZ P E z] (kk : Tk L (Own E sz (.slice (some ⟨b, 0, none⟩) n c) n (xs ++ ys)) R) (ho : m ≠ 0 → o = xs.length)
    (hl : ys.length = m * z.length) (h0 : z.length ≠ 0) (hc : z.all isCell = true) (h : ∀ zs : List Value, zs.length = ys.length → K (.tuple #[]) (Own E sz (.slice (some ⟨b, 0, none⟩) n c) n (xs ++ zs) :: R)) :
    SV P ro ⟨d, .call { callee := .builtin .clear, args := #[x], argTypes := #[t] }, ty, ps, af, gu⟩ f K L := by
  obtain ⟨zv, h3, h4⟩ := hz.ex
  refine SV.bi (vs := [.slice (some ⟨b, o, none⟩) m c']) (s := Builtin.clear_ #[t] ty #[.slice (some ⟨b, o, none⟩) m c']) (by simp [hx]) (fun _ => rfl) ?_
  unfold Builtin.clear_
  simp only [List.getElem?_toArray]
  refine SW.bind (SW.underlying he.h ?_)
  by_cases hm : m = 0
  · subst hm
    have : ys = [] := List.eq_nil_of_length_eq_zero (by simpa using hl)
    subst this
    refine SW.ent (M := Own E sz (.slice (some ⟨b, 0, none⟩) n c) n (xs ++ []) :: R) kk ?_
    exact SW.bind (SW.pure (SW.pure (h [] rfl)))
  obtain ⟨m, rfl⟩ : ∃ k, m = k + 1 := ⟨m - 1, by omega⟩
  obtain rfl := ho (by omega)
  refine SW.bind ?_
  refine SW.zeroValue h3 (SW.bind ?_)
  intro Fr w q
  have hzl : ((Builtin.zeroCells zv.cells (m + 1)).toList).length = ys.length := by rw [Array.length_toList, zeroCells_size, h4, hl]; simp
  have hza : ((Builtin.zeroCells zv.cells (m + 1)).toList).all isCell = true := by
    rw [List.all_eq_true]
    intro v hv
    unfold Builtin.zeroCells at hv
    rw [h4] at hv
    simp only [Array.toList_map, Array.toList_range, List.mem_map, List.mem_range] at hv
    obtain ⟨i, hi, rfl⟩ := hv
    have hlt : i % z.length < z.length := Nat.mod_lt _ (by omega)
    simp only [List.size_toArray]
    rw [getElem!_pos _ _ (by simpa using hlt)]
    exact List.all_eq_true.1 hc _ (by simp)
  generalize (Builtin.zeroCells zv.cells (m + 1)).toList = zs at *
  rcases has_own (kk.app Fr _ q) with ⟨h1, h2, h3'⟩ | ⟨b', cap, sp, fr, ⟨h1, h2, h3', h4', h5⟩, y'⟩
  · cases h1
  · injection h1 with h6 h7 h8; injection h6 with h6; injection h6 with h6
    subst h6; subst h8
    have hsz : n * sz ≤ c * sz := Nat.mul_le_mul_right _ h2
    rw [List.length_append] at h3'
    have hzne : zs ≠ [] := by
      intro e
      subst e
      have h1 : ys.length = 0 := by rw [← hzl]; rfl
      rw [hl] at h1
      have : z.length ≤ (m + 1) * z.length := Nat.le_mul_of_pos_left _ (by omega)
      omega
    have ts := SW.storeCells (P := P) (b := b) (off := xs.length) (T := E) (fr := fr) (M := fun o => pts b o :: R) zs 0 ((xs ++ ys) ++ sp).toArray (L := pts b (.cells ((xs ++ ys) ++ sp).toArray E fr) :: R) (K := fun u L' => L' = pts b (.cells ((xs ++ zs) ++ sp).toArray E fr) :: R) (by omega) inferInstance
      (fun o => inferInstance) hza (by simp; omega) (fun _ => by
        rw [Nat.add_zero, putAt_lput _ _ _ (by simp; omega)]
        congr 3
        rw [List.append_assoc, lput_mid3 _ _ _ _ hzl, List.append_assoc]) (fun e => absurd e hzne)
    obtain ⟨r, w', L', q1, q2, q5, q6⟩ := ts Fr w y'
    subst q2
    refine ⟨r, w', Own E sz (.slice (some ⟨b, 0, none⟩) n c) n (xs ++ zs) :: R, q1, SW.pure (h zs hzl), ?_, q6⟩
    exact own_of (fr := fr) ⟨rfl, h2, by rw [List.length_append]; omega, h4', h5⟩ q5
end
end Go.SL
