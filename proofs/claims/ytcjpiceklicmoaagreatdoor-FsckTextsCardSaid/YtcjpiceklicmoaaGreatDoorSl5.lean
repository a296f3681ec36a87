/- SL 5: the operations' rules: numbers, tests, conversions, addresses, cuts. Generic in the program. -/
import Derived.Test.YtcjpiceklicmoaaGreatDoorSl4
namespace Go.SL
set_option linter.unusedVariables false
set_option linter.unusedSimpArgs false

theorem beqI (a b : Int) : (a == b) = decide (a = b) := by rw [Bool.eq_iff_iff]; simp
theorem i64w {n : Int} (h1 : -9223372036854775808 ≤ n) (h2 : n ≤ 9223372036854775807) : IntKind.i64.wrap n = n := IntWalk.i64_in n ⟨h1, h2⟩
theorem u64w {n : Int} (h1 : 0 ≤ n) (h2 : n ≤ 18446744073709551615) : IntKind.u64.wrap n = n := IntWalk.u64_in n ⟨h1, h2⟩
theorem u8w {n : Int} (h1 : 0 ≤ n) (h2 : n ≤ 255) : IntKind.u8.wrap n = n := IntWalk.u8_in n ⟨h1, h2⟩
theorem u32w {n : Int} (h1 : 0 ≤ n) (h2 : n ≤ 4294967295) : IntKind.u32.wrap n = n := IntWalk.u32_in n ⟨h1, h2⟩
theorem i64q {x y : Int} (h1 : 0 ≤ x) (h2 : x ≤ 9223372036854775807) (h3 : 0 < y) : IntKind.i64.wrap (x.tdiv y) = x / y := IntWalk.i64_quo x y ⟨h1, h2, h3⟩
theorem u8q {x y : Int} (h1 : 0 ≤ x) (h2 : x ≤ 255) (h3 : 0 < y) : IntKind.u8.wrap (x.tdiv y) = x / y := IntWalk.u8_quo x y ⟨h1, h2, h3⟩
theorem u64q {x y : Int} (h1 : 0 ≤ x) (h2 : x ≤ 18446744073709551615) (h3 : 0 < y) : IntKind.u64.wrap (x.tdiv y) = x / y := IntWalk.u64_quo x y ⟨h1, h2, h3⟩
theorem remP {x y : Int} (h1 : 0 ≤ x) : x.tmod y = x % y := Int.tmod_eq_emod_of_nonneg h1

section
variable {P : Program} {ro : Option Nat} {f : Frm} {L : List HP} {d : Option Nat} {ty : TypeId} {ps : String} {af : Array Edge} {gu : Option (Nat × Bool)} {K : Value → List HP → Prop}

theorem SV.bin {op : BinOp} {t yt : TypeId} {x y : Operand} {a b v : Value} (hx : f.ev x = a) (hy : f.ev y = b) (e : ∀ w, (do eqGuard op t x y a b; Go.binOp op t a b : Sem Value).run P w = .ok v w)
    (h : K v L) : SV P ro ⟨d, .binOp op t x y yt, ty, ps, af, gu⟩ f K L := by
  subst hx; subst hy
  exact (SV.val _ (by intro c h; cases h) rfl (SW.ok e h))

section
variable {t yt : TypeId} {x y : Operand} {k : IntKind} {a b z : Int}
theorem SV.add (hx : f.ev x = .int k a) (hy : f.ev y = .int k b) (hz : k.wrap (a + b) = z) (h : K (.int k z) L) : SV P ro ⟨d, .binOp .add t x y yt, ty, ps, af, gu⟩ f K L :=
  SV.bin hx hy (fun w => by simp [eqGuard, Go.binOp, Op.intArith, hz]) h
theorem SV.sub (hx : f.ev x = .int k a) (hy : f.ev y = .int k b) (hz : k.wrap (a - b) = z) (h : K (.int k z) L) : SV P ro ⟨d, .binOp .sub t x y yt, ty, ps, af, gu⟩ f K L :=
  SV.bin hx hy (fun w => by simp [eqGuard, Go.binOp, Op.intArith, hz]) h
theorem SV.mul (hx : f.ev x = .int k a) (hy : f.ev y = .int k b) (hz : k.wrap (a * b) = z) (h : K (.int k z) L) : SV P ro ⟨d, .binOp .mul t x y yt, ty, ps, af, gu⟩ f K L :=
  SV.bin hx hy (fun w => by simp [eqGuard, Go.binOp, Op.intArith, hz]) h
theorem SV.quo (hx : f.ev x = .int k a) (hy : f.ev y = .int k b) (h0 : b ≠ 0) (hz : k.wrap (a.tdiv b) = z) (h : K (.int k z) L) : SV P ro ⟨d, .binOp .quo t x y yt, ty, ps, af, gu⟩ f K L :=
  SV.bin hx hy (fun w => by simp [eqGuard, Go.binOp, Op.intDiv, hz, h0]) h
theorem SV.rem (hx : f.ev x = .int k a) (hy : f.ev y = .int k b) (h0 : b ≠ 0) (hz : a.tmod b = z) (h : K (.int k z) L) : SV P ro ⟨d, .binOp .rem t x y yt, ty, ps, af, gu⟩ f K L :=
  SV.bin hx hy (fun w => by simp [eqGuard, Go.binOp, Op.intDiv, hz, h0]) h
theorem SV.band (hx : f.ev x = .int k a) (hy : f.ev y = .int k b) (hz : k.wrap ((a % 2 ^ k.bits).toNat &&& (b % 2 ^ k.bits).toNat : Nat) = z) (h : K (.int k z) L) : SV P ro ⟨d, .binOp .and t x y yt, ty, ps, af, gu⟩ f K L :=
  SV.bin hx hy (fun w => by simp [eqGuard, Go.binOp, Op.intBits, hz]) h
theorem SV.bor (hx : f.ev x = .int k a) (hy : f.ev y = .int k b) (hz : k.wrap ((a % 2 ^ k.bits).toNat ||| (b % 2 ^ k.bits).toNat : Nat) = z) (h : K (.int k z) L) : SV P ro ⟨d, .binOp .or t x y yt, ty, ps, af, gu⟩ f K L :=
  SV.bin hx hy (fun w => by simp [eqGuard, Go.binOp, Op.intBits, hz]) h
theorem SV.bxor (hx : f.ev x = .int k a) (hy : f.ev y = .int k b) (hz : k.wrap ((a % 2 ^ k.bits).toNat ^^^ (b % 2 ^ k.bits).toNat : Nat) = z) (h : K (.int k z) L) : SV P ro ⟨d, .binOp .xor t x y yt, ty, ps, af, gu⟩ f K L :=
  SV.bin hx hy (fun w => by simp [eqGuard, Go.binOp, Op.intBits, hz]) h
theorem SV.bandNot (hx : f.ev x = .int k a) (hy : f.ev y = .int k b) (hz : k.wrap ((a % 2 ^ k.bits).toNat &&& (2 ^ k.bits - 1 - (b % 2 ^ k.bits).toNat) : Nat) = z) (h : K (.int k z) L) : SV P ro ⟨d, .binOp .andNot t x y yt, ty, ps, af, gu⟩ f K L :=
  SV.bin hx hy (fun w => by simp [eqGuard, Go.binOp, Op.intBits, hz]) h
theorem SV.shl {k' : IntKind} (hx : f.ev x = .int k a) (hy : f.ev y = .int k' b) (h0 : 0 ≤ b) (hz : k.wrap (a * 2 ^ (min b.toNat k.bits)) = z) (h : K (.int k z) L) : SV P ro ⟨d, .binOp .shl t x y yt, ty, ps, af, gu⟩ f K L :=
  SV.bin hx hy (fun w => by have : ¬ b < 0 := by omega
                            simp [eqGuard, Go.binOp, Op.shift, hz, this]) h
theorem SV.shr {k' : IntKind} (hx : f.ev x = .int k a) (hy : f.ev y = .int k' b) (h0 : 0 ≤ b) (hz : a.fdiv (2 ^ (min b.toNat k.bits)) = z) (h : K (.int k z) L) : SV P ro ⟨d, .binOp .shr t x y yt, ty, ps, af, gu⟩ f K L :=
  SV.bin hx hy (fun w => by have : ¬ b < 0 := by omega
                            simp [eqGuard, Go.binOp, Op.shift, hz, this]) h
theorem SV.eql (hx : f.ev x = .int k a) (hy : f.ev y = .int k b) (h : K (.bool (decide (a = b))) L) : SV P ro ⟨d, .binOp .eql t x y yt, ty, ps, af, gu⟩ f K L :=
  SV.bin hx hy (fun w => by simp [eqGuard, Go.binOp, Op.intCmp, beqI]) h
theorem SV.neq (hx : f.ev x = .int k a) (hy : f.ev y = .int k b) (h : K (.bool (!decide (a = b))) L) : SV P ro ⟨d, .binOp .neq t x y yt, ty, ps, af, gu⟩ f K L :=
  SV.bin hx hy (fun w => by simp [eqGuard, Go.binOp, Op.intCmp, bne, beqI]) h
theorem SV.lss (hx : f.ev x = .int k a) (hy : f.ev y = .int k b) (h : K (.bool (decide (a < b))) L) : SV P ro ⟨d, .binOp .lss t x y yt, ty, ps, af, gu⟩ f K L :=
  SV.bin hx hy (fun w => by simp [eqGuard, Go.binOp, Op.intCmp]) h
theorem SV.leq (hx : f.ev x = .int k a) (hy : f.ev y = .int k b) (h : K (.bool (decide (a ≤ b))) L) : SV P ro ⟨d, .binOp .leq t x y yt, ty, ps, af, gu⟩ f K L :=
  SV.bin hx hy (fun w => by simp [eqGuard, Go.binOp, Op.intCmp]) h
theorem SV.gtr (hx : f.ev x = .int k a) (hy : f.ev y = .int k b) (h : K (.bool (decide (b < a))) L) : SV P ro ⟨d, .binOp .gtr t x y yt, ty, ps, af, gu⟩ f K L :=
  SV.bin hx hy (fun w => by simp [eqGuard, Go.binOp, Op.intCmp]) h
theorem SV.geq (hx : f.ev x = .int k a) (hy : f.ev y = .int k b) (h : K (.bool (decide (b ≤ a))) L) : SV P ro ⟨d, .binOp .geq t x y yt, ty, ps, af, gu⟩ f K L :=
  SV.bin hx hy (fun w => by simp [eqGuard, Go.binOp, Op.intCmp]) h
end

theorem SV.not {t : TypeId} {x : Operand} {b b' : Bool} (hx : f.ev x = .bool b) (hb : (!b) = b') (h : K (.bool b') L) : SV P ro ⟨d, .unOp .not t x, ty, ps, af, gu⟩ f K L := by
  subst hb
  refine (SV.val (Op.unary .not (f.ev x)) (by intro c h; cases h) rfl ?_)
  rw [hx]; exact SW.pure h
theorem SV.neg {t : TypeId} {x : Operand} {k : IntKind} {a z : Int} (hx : f.ev x = .int k a) (hz : k.wrap (0 - a) = z) (h : K (.int k z) L) : SV P ro ⟨d, .unOp .neg t x, ty, ps, af, gu⟩ f K L := by
  subst hz
  refine (SV.val (Op.unary .neg (f.ev x)) (by intro c h; cases h) rfl ?_)
  rw [hx]; exact SW.pure h
theorem SV.convInt {s u : TypeId} {ds : TypeDesc} {x : Operand} {k k' : IntKind} {a z : Int} (hx : f.ev x = .int k a) [hs : TU P s ds] [hu : TU P u (.int k')] (hz : k'.wrap a = z)
    (h : K (.int k' z) L) : SV P ro ⟨d, .convert s u x, ty, ps, af, gu⟩ f K L := by
  subst hz
  refine (SV.val (Go.convert s u (f.ev x)) (by intro c h; cases h) rfl ?_)
  rw [hx]
  refine SW.bind (SW.underlying hs.h (SW.bind (SW.underlying hu.h ?_)))
  cases ds <;> exact SW.pure h
theorem SV.extract {x : Operand} {i : Nat} {vs : List Value} {v : Value} (hx : f.ev x = .tuple vs.toArray) (hv : lget vs i = some v) (h : K v L) : SV P ro ⟨d, .extract x i, ty, ps, af, gu⟩ f K L := by
  refine (SV.val (Instr.extract (f.ev x) i) (by intro c h; cases h) rfl ?_)
  rw [lget_eq] at hv
  have hv' : vs.toArray[i]? = some v := by simpa using hv
  rw [hx]; simp only [Instr.extract, hv']; exact SW.pure h

/-- The place of a struct's field: how many cells on; for a field of at least one cell. -/
def fieldOff (P : Program) (s i : Nat) : Option Nat :=
  match P.underlying s with
  | some (.struct fs) => match fs[i]? with
    | some fd => match tySize P fd.type with
      | some n => bif Nat.beq n 0 then none else some fd.offset
      | none => none
    | none => none
  | _ => none
class TF (P : Program) (s i : Nat) (o : outParam Nat) : Prop where h : fieldOff P s i = some o
theorem SV.fieldAddr {s i o : Nat} {x : Operand} {b off : Nat} (hx : f.ev x = .pointer (some ⟨b, off, none⟩)) [ho' : TF P s i o] (h : K (.pointer (some ⟨b, off + o, none⟩)) L) :
    SV P ro ⟨d, .fieldAddr s x i, ty, ps, af, gu⟩ f K L := by
  refine (SV.val (Instr.fieldAt s (f.ev x) i) (by intro c h; cases h) rfl ?_)
  rw [hx]
  have ho := ho'.h
  unfold fieldOff at ho
  split at ho
  · rename_i fs hs
    split at ho
    · rename_i fd hf
      split at ho
      · rename_i n hn
        cases hb : Nat.beq n 0 with
        | true => rw [hb] at ho; cases ho
        | false =>
          rw [hb] at ho; simp only [cond_false, Option.some.injEq] at ho; subst ho
          have hn0 : n ≠ 0 := by intro e; subst e; cases hb
          refine SW.bind (SW.underlying hs ?_)
          simp only [hf]
          refine SW.bind (SW.pure (SW.bind (SW.bind (SW.sizeOf hn ?_))))
          rw [if_neg hn0, add_none]
          exact SW.pure (SW.pure h)
      · cases ho
    · cases ho
  · cases ho
/-- A field of a struct's value: cells from o on, n of them (one: the cell itself). -/
def fieldTy (P : Program) (s i : Nat) : Option (Nat × Nat) :=
  match P.underlying s with
  | some (.struct fs) => match fs[i]? with
    | some fd => some (fd.offset, fd.type)
    | none => none
  | _ => none
theorem SW.part1 {t o : Nat} {cs : Array Value} {v : Value} {K : Value → List HP → Prop} (ht : tyAgg P t = some false) (hv : cs[o]? = some v) (h : K v L) : SW P (Go.part t cs o) K L := by
  refine SW.bind (SW.isAgg ht ?_)
  simp only [Bool.false_eq_true, if_false, hv]; exact SW.pure h
theorem SW.partN {t o n : Nat} {cs cs' : Array Value} {K : Value → List HP → Prop} (ht : tyAgg P t = some true) (hs : tySize P t = some n) (hv : cs.extract o (o + n) = cs') (h : K (.agg cs') L) : SW P (Go.part t cs o) K L := by
  subst hv
  refine SW.bind (SW.isAgg ht ?_)
  simp only [if_true]; exact SW.bind (SW.sizeOf hs (SW.pure h))
class TG (P : Program) (s i : Nat) (o t : outParam Nat) : Prop where h : fieldTy P s i = some (o, t)
theorem SV.field {s i o t : Nat} {x : Operand} {cs : List Value} {v : Value} (hx : f.ev x = .agg cs.toArray) [hf' : TG P s i o t] [ht : TA P t false] (hv : lget cs o = some v) (h : K v L) :
    SV P ro ⟨d, .field s x i, ty, ps, af, gu⟩ f K L := by
  refine (SV.val (Instr.field s (f.ev x) i) (by intro c h; cases h) rfl ?_)
  rw [hx]
  have hf := hf'.h
  have hv' : cs.toArray[o]? = some v := by rw [lget_eq] at hv; simpa using hv
  unfold fieldTy at hf
  split at hf
  · rename_i fs hs
    split at hf
    · rename_i fd hfd
      simp only [Option.some.injEq, Prod.mk.injEq] at hf; obtain ⟨rfl, rfl⟩ := hf
      refine SW.bind (SW.underlying hs ?_)
      simp only [hfd]
      exact SW.bind (SW.pure (SW.part1 ht.h hv' h))
    · cases hf
  · cases hf
theorem SV.fieldN {s i o t n : Nat} {x : Operand} {cs cs' : List Value} (hx : f.ev x = .agg cs.toArray) [hf' : TG P s i o t] [ht : TA P t true] [hn : TS P t n] (hv : NL (lsub cs o n) cs') (h : K (.agg cs'.toArray) L) :
    SV P ro ⟨d, .field s x i, ty, ps, af, gu⟩ f K L := by
  refine (SV.val (Instr.field s (f.ev x) i) (by intro c h; cases h) rfl ?_)
  rw [hx]
  have hf := hf'.h
  have hv' : cs.toArray.extract o (o + n) = cs'.toArray := by rw [NL, lsub_eq] at hv; subst hv; apply Array.toList_inj.1; simp
  unfold fieldTy at hf
  split at hf
  · rename_i fs hs
    split at hf
    · rename_i fd hfd
      simp only [Option.some.injEq, Prod.mk.injEq] at hf; obtain ⟨rfl, rfl⟩ := hf
      refine SW.bind (SW.underlying hs ?_)
      simp only [hfd]
      exact SW.bind (SW.pure (SW.partN ht.h hn.h hv' h))
    · cases hf
  · cases hf

/-- A slice's element: type, cells each. -/
def elemOf (P : Program) (t : Nat) : Option (Nat × Nat) :=
  match P.underlying t with
  | some (.slice e) => (tySize P e).map fun n => (e, n)
  | _ => none
theorem elemOf_some {t e n : Nat} (h : elemOf P t = some (e, n)) : P.underlying t = some (.slice e) ∧ tySize P e = some n := by
  unfold elemOf at h
  split at h
  · rename_i e' hs
    cases hn : tySize P e' with
    | none => simp [hn] at h
    | some n' => simp [hn] at h; obtain ⟨rfl, rfl⟩ := h; exact ⟨hs, hn⟩
  · cases h
class TE (P : Program) (t : Nat) (e n : outParam Nat) : Prop where h : elemOf P t = some (e, n)
theorem SV.indexAddr {t e n : Nat} {x y : Operand} {b off len cap : Nat} {k : IntKind} {i : Int} (hx : f.ev x = .slice (some ⟨b, off, none⟩) len cap) (hy : f.ev y = .int k i) [he : TE P t e n] (h0 : 0 ≤ i) (h1 : i < len)
    (h : K (.pointer (some ⟨b, off + i.toNat * n, none⟩)) L) : SV P ro ⟨d, .indexAddr t x y, ty, ps, af, gu⟩ f K L := by
  obtain ⟨hs, hn⟩ := elemOf_some he.h
  refine (SV.val (Instr.indexAt t (f.ev x) (f.ev y)) (by intro c h; cases h) rfl ?_)
  rw [hx, hy]
  refine SW.bind (SW.pure (SW.bind (SW.underlying hs (SW.bind (SW.pure (SW.bind (SW.underlying hs ?_)))))))
  simp only [h0, h1, and_self, if_true]
  refine SW.bind (SW.sizeOf hn ?_)
  rw [add_none]; exact SW.pure h
/-- An array's element: how many, type, cells each. -/
def arrOf (P : Program) (t : Nat) : Option (Nat × Nat × Nat) :=
  match P.underlying t with
  | some (.array l e) => (tySize P e).map fun n => (l, e, n)
  | _ => none
theorem arrOf_some {t l e n : Nat} (h : arrOf P t = some (l, e, n)) : P.underlying t = some (.array l e) ∧ tySize P e = some n := by
  unfold arrOf at h
  split at h
  · rename_i l' e' hs
    cases hn : tySize P e' with
    | none => simp [hn] at h
    | some n' => simp [hn] at h; obtain ⟨rfl, rfl, rfl⟩ := h; exact ⟨hs, hn⟩
  · cases h
class TR (P : Program) (t : Nat) (l e n : outParam Nat) : Prop where h : arrOf P t = some (l, e, n)
theorem SV.indexAddrA {t l e n : Nat} {x y : Operand} {b off : Nat} {k : IntKind} {i : Int} (hx : f.ev x = .pointer (some ⟨b, off, none⟩)) (hy : f.ev y = .int k i) [he : TR P t l e n] (h0 : 0 ≤ i) (h1 : i < l)
    (h : K (.pointer (some ⟨b, off + i.toNat * n, none⟩)) L) : SV P ro ⟨d, .indexAddr t x y, ty, ps, af, gu⟩ f K L := by
  obtain ⟨hs, hn⟩ := arrOf_some he.h
  refine (SV.val (Instr.indexAt t (f.ev x) (f.ev y)) (by intro c h; cases h) rfl ?_)
  rw [hx, hy]
  refine SW.bind (SW.pure (SW.bind (SW.underlying hs (SW.bind (SW.pure (SW.bind (SW.pure (SW.bind (SW.underlying hs ?_)))))))))
  simp only [h0, h1, and_self, if_true]
  refine SW.bind (SW.sizeOf hn ?_)
  rw [add_none]; exact SW.pure h
/-- A byte of a string. -/
theorem SV.indexS {t : Nat} {x y : Operand} {s : List UInt8} {k : IntKind} {i : Int} {c : UInt8} (hx : f.ev x = .string ⟨s.toArray⟩) (hy : f.ev y = .int k i) [ht : TU P t .string] (h0 : 0 ≤ i) (h1 : s[i.toNat]? = some c)
    (h : K (.int .u8 c.toNat) L) : SV P ro ⟨d, .index t x y, ty, ps, af, gu⟩ f K L := by
  refine (SV.val (Instr.index t (f.ev x) (f.ev y)) (by intro c h; cases h) rfl ?_)
  rw [hx, hy]
  refine SW.bind (SW.pure (SW.bind (SW.underlying ht.h ?_)))
  have hlt : i.toNat < s.length := (List.getElem?_eq_some_iff.1 h1).1
  have e : (if 0 ≤ i then (⟨s.toArray⟩ : ByteArray)[i.toNat]? else none) = some c := by
    rw [if_pos h0]
    have h2 : i.toNat < (⟨s.toArray⟩ : ByteArray).size := hlt
    rw [List.getElem?_eq_getElem hlt] at h1
    rw [getElem?_pos (⟨s.toArray⟩ : ByteArray) i.toNat h2, ← h1]; rfl
  simp only [e]; exact SW.pure h
/-- An array's value: an element. -/
theorem SV.indexA {t l e n : Nat} {x y : Operand} {cs : List Value} {k : IntKind} {i : Int} {v : Value} (hx : f.ev x = .agg cs.toArray) (hy : f.ev y = .int k i) [he : TR P t l e n] [ht : TA P e false] (h0 : 0 ≤ i) (h1 : i < l) (hv : lget cs (i.toNat * n) = some v)
    (h : K v L) : SV P ro ⟨d, .index t x y, ty, ps, af, gu⟩ f K L := by
  obtain ⟨hs, hn⟩ := arrOf_some he.h
  have hv' : cs.toArray[i.toNat * n]? = some v := by rw [lget_eq] at hv; simpa using hv
  refine (SV.val (Instr.index t (f.ev x) (f.ev y)) (by intro c h; cases h) rfl ?_)
  rw [hx, hy]
  refine SW.bind (SW.pure (SW.bind (SW.underlying hs ?_)))
  simp only [h0, h1, and_self, if_true]
  exact SW.bind (SW.sizeOf hn (SW.part1 ht.h hv' h))

theorem SW.makeSlice {t e n by_ : Nat} {z c : Value} {len : Int} {K : Value → List HP → Prop} (he : elemOf P t = some (e, n)) (hb : tyBytes P e = some by_) (hz : tyZero P e = some z) (hzn : n = 1) (hzc : z.cells = #[c]) (h0 : 0 ≤ len) (h1 : (by_ : Int) * len ≤ 2 ^ 48) (hm : len ≤ 9223372036854775807)
    (h : ∀ b, K (.slice (some ⟨b, 0, none⟩) len.toNat len.toNat) (pts b (.cells (Array.replicate len.toNat c) e) :: L)) : SW P (Instr.makeSlice t (.int .i64 len) (.int .i64 len)) K L := by
  obtain ⟨hs, hn⟩ := elemOf_some he
  have hw : IntKind.i64.wrap len = len := i64w (by omega) hm
  unfold tyBytes at hb
  cases hi : P.info? e with
  | none => simp [hi] at hb
  | some i =>
    simp [hi] at hb; subst hb; subst hzn
    refine SW.bind (SW.underlying hs (SW.bind ?_))
    refine SW.bind (SW.pure (SW.pure (SW.bind ?_)))
    refine SW.bind (SW.pure (SW.pure (SW.bind (SW.typeInfo hi ?_))))
    simp only [hw]
    have c1 : ¬ len < 0 := by omega
    have c2 : ¬ ((i.bytes : Int) * len > 2 ^ 48) := by omega
    simp only [c1, c2, decide_false, Bool.or_false, gt_iff_lt, Int.lt_irrefl, Bool.false_eq_true, if_false]
    refine SW.bind (SW.askRoom (SW.bind (SW.sizeOf hn ?_)))
    simp only [Nat.mul_one]
    by_cases hl : len.toNat = 0
    · rw [if_pos hl]
      refine SW.bind (SW.pure (SW.bind (SW.bind (SW.new fun b => ?_))))
      have := h b
      simp only [hl, Array.replicate_zero] at this
      refine SW.pure (SW.pure ?_)
      have e0 : ∀ g : Nat → Value, (Array.range 0).map g = #[] := fun g => by apply Array.ext <;> simp
      rw [hl, e0]
      exact this
    · rw [if_neg hl]
      refine SW.bind (SW.zeroValue hz (SW.bind (SW.pure (SW.bind (SW.bind (SW.new fun b => ?_))))))
      refine SW.pure (SW.pure ?_)
      have e : (Array.range len.toNat).map (fun x => z.cells[x % z.cells.size]!) = Array.replicate len.toNat c := by
        rw [hzc]
        apply Array.ext
        · simp
        · intro j h1 h2; simp [Nat.mod_one]
      rw [e]; exact h b
/-- A new row of n elements, all zero. -/
theorem SV.makeSlice {t e by_ : Nat} {z : Value} {x : Operand} {len : Int} {m : Nat} (hx : f.ev x = .int .i64 len) [he : TE P t e 1] [hb : TB P e by_] [hz : TZ P e [z]] (hm : len = m) (h1 : by_ * m ≤ 2 ^ 48) (h2 : m < 2 ^ 63)
    (h : ∀ b, K (.slice (some ⟨b, 0, none⟩) m m) (pts b (.cells (List.replicate m z).toArray e) :: L)) : SV P ro ⟨d, .makeSlice t x x, ty, ps, af, gu⟩ f K L := by
  subst hm
  obtain ⟨v, h3, h4⟩ := hz.ex
  refine (SV.val (Instr.makeSlice t (f.ev x) (f.ev x)) (by intro c h; cases h) rfl ?_)
  rw [hx]
  refine SW.makeSlice he.h hb.h h3 rfl (c := z) (by simpa using h4) (by omega) (by simpa using (by exact_mod_cast h1 : ((by_ * m : Nat) : Int) ≤ ((2 ^ 48 : Nat) : Int))) (by omega) ?_
  intro b
  have := h b
  simpa using this
end
end Go.SL
