/- Strings of the library: where a byte stands, how often it comes; a builder's row. Generic in the program. -/
import Derived.Test.YtcjpiceklicmoaaGreatDoorSlM
import Derived.Test.YtcjpiceklicmoaaGreatDoorSlK
import Derived.Lib.Bytealg
import Derived.Lib.UnsafeStr
import Derived.Lib.Builder
import Derived.Lib.MakeNoZero
namespace Go.SL
set_option linter.unusedVariables false
set_option linter.unusedSimpArgs false
set_option linter.unusedSectionVars false
section
variable {P : Program} {ro : Option Nat} {f : Frm} {L R : List HP} {d : Option Nat} {ty : TypeId} {ps : String} {af : Array Edge} {gu : Option (Nat × Bool)} {K : Value → List HP → Prop}
theorem SV.indexByteS {g : FuncId} {fn : Func} {as : List Operand} {ts : Array TypeId} {s : List UInt8} {c : UInt8} (hf : P.funcs[g]? = some fn) (hname : (fn.name == "runtime.NumGoroutine") = false) (hb : fn.body.isNone = true)
    (hn : Extern.findNext fn = none) (he : Extern.find fn = some Extern.BytealgIndexByte.indexByte) (hv : as.map f.ev = [strV s, u8V c]) (h : K (.int .i64 (Lib.indexByte s c)) L) :
    SV P ro ⟨d, .call { callee := .value (.func g), args := as.toArray, argTypes := ts }, ty, ps, af, gu⟩ f K L := by
  refine SV.ext hf hname hb hn he hv (SW.ok (fun w => ?_) h)
  have := Lib.run_indexByteString (P := P) ⟨s.toArray⟩ (c.toNat : Int) w
  simp only [Int.toNat_natCast] at this
  rw [show (c.toNat).toUInt8 = c from UInt8.toNat_inj.1 (by simp)] at this
  exact this
theorem SV.countS {g : FuncId} {fn : Func} {as : List Operand} {ts : Array TypeId} {s : List UInt8} {c : UInt8} (hf : P.funcs[g]? = some fn) (hname : (fn.name == "runtime.NumGoroutine") = false) (hb : fn.body.isNone = true)
    (hn : Extern.findNext fn = none) (he : Extern.find fn = some Extern.BytealgCount.count) (hv : as.map f.ev = [strV s, u8V c]) (h : K (.int .i64 (s.count c : Nat)) L) :
    SV P ro ⟨d, .call { callee := .value (.func g), args := as.toArray, argTypes := ts }, ty, ps, af, gu⟩ f K L := by
  refine SV.ext hf hname hb hn he hv (SW.ok (fun w => ?_) h)
  have := Lib.run_countString (P := P) ⟨s.toArray⟩ (c.toNat : Int) w
  simp only [Int.toNat_natCast] at this
  rw [show (c.toNat).toUInt8 = c from UInt8.toNat_inj.1 (by simp)] at this
  exact this
theorem SV.noEscape {g : FuncId} {fn : Func} {as : List Operand} {ts : Array TypeId} {x : Value} (hf : P.funcs[g]? = some fn) (hname : (fn.name == "runtime.NumGoroutine") = false) (hb : fn.body.isNone = true)
    (hn : Extern.findNext fn = none) (he : Extern.find fn = some Extern.AbiNoEscape.same) (hv : as.map f.ev = [x]) (h : K x L) :
    SV P ro ⟨d, .call { callee := .value (.func g), args := as.toArray, argTypes := ts }, ty, ps, af, gu⟩ f K L :=
  SV.ext hf hname hb hn he hv (SW.ok (fun w => rfl) h)
theorem SW.makeNoZero {pa : Array TypeId} {t e n : Nat} (ht : P.underlying t = some (.slice e)) (hn : n ≤ 281474976710656) (h : ∀ (b : Nat) (cs : List Value), n ≤ cs.length → K (.slice (some ⟨b, 0, none⟩) n cs.length) (pts b (.cells cs.toArray e) :: L)) :
    SW P (Extern.BytealgMakeNoZero.makeNoZero pa #[t] #[.int .i64 n]) K L := by
  intro Fr w x
  obtain ⟨cs, h1, h2, _⟩ := Lib.run_makeNoZero (P := P) w pa t e ht n hn
  have hK := h w.heap.size cs.toList (by simpa using h2)
  rw [Array.length_toList, Array.toArray_toList] at hK
  exact ⟨_, _, pts w.heap.size (.cells cs e) :: L, h1, hK, has_new x (heapOf_fresh w) (heapOf_push w (.cells cs e)), ⟨rfl, rfl, rfl, by show w.heap.size ≤ (w.heap.push _).size; rw [Array.size_push]; exact Nat.le_succ _⟩⟩
theorem SV.makeNoZero {g : FuncId} {fn : Func} {as : List Operand} {ts pa : Array TypeId} {t e n : Nat} (hf : P.funcs[g]? = some fn) (hname : (fn.name == "runtime.NumGoroutine") = false) (hb : fn.body.isNone = true)
    (hnx : Extern.findNext fn = none) (he : Extern.find fn = some (Extern.BytealgMakeNoZero.makeNoZero pa #[t])) (hv : as.map f.ev = [.int .i64 n]) [ht : TU P t (.slice e)] (hn : n ≤ 281474976710656)
    (h : ∀ b c, n ≤ c → K (.slice (some ⟨b, 0, none⟩) n c) (Own e 1 (.slice (some ⟨b, 0, none⟩) 0 c) 0 [] :: L)) :
    SV P ro ⟨d, .call { callee := .value (.func g), args := as.toArray, argTypes := ts }, ty, ps, af, gu⟩ f K L := by
  refine SV.ext hf hname hb hnx he hv ?_
  have : SW P (Extern.BytealgMakeNoZero.makeNoZero pa #[t] #[.int .i64 n]) (fun v L' => ∃ (b : Nat) (cs : List Value), n ≤ cs.length ∧ v = .slice (some ⟨b, 0, none⟩) n cs.length ∧ L' = pts b (.cells cs.toArray e) :: L) L := SW.makeNoZero ht.h hn (fun b cs hc => ⟨b, cs, hc, rfl, rfl⟩)
  intro Fr w x
  obtain ⟨r, w', L', a, ⟨b, cs, hc, rfl, rfl⟩, c, dd⟩ := this Fr w x
  refine ⟨_, w', _, a, h b cs.length hc, own_of (sp := cs) (fr := (0, 0)) ⟨rfl, Nat.zero_le _, by simp, by simp, .inl (Nat.le_refl _)⟩ ?_, dd⟩
  simpa using c
/-- A pointer, to be any one's, and back. -/
theorem SV.toUnsafe {s u t : TypeId} {T : TypeId} {j : TypeInfo} {x : Operand} {b : Nat} {l : List Value} {fr : Nat × Nat} (hx : f.ev x = .pointer (some ⟨b, 0, none⟩)) (hs : P.underlying s = some (.pointer t)) (hd : P.underlying u = some .unsafePointer) (ht : P.info? t = some j) (hj : j.size ≠ 0)
    [r : Rd L b (.cells l.toArray T fr)] (hl : 0 < l.length) (h : K (.pointer (some ⟨b, 0, none⟩)) L) : SV P ro ⟨d, .convert s u x, ty, ps, af, gu⟩ f K L := by
  refine (SV.val (Go.convert s u (f.ev x)) (by intro c h; cases h) rfl ?_)
  rw [hx]
  exact SW.runs (fun Fr w y => Lib.run_to_unsafe w ⟨b, 0, none⟩ hs hd ht hj (shape_of (r.append y)) (by simpa using hl)) h
theorem SV.ofUnsafe {s u t : TypeId} {T : TypeId} {j : TypeInfo} {x : Operand} {b : Nat} {l : List Value} {fr : Nat × Nat} (hx : f.ev x = .pointer (some ⟨b, 0, none⟩)) (hs : P.underlying s = some .unsafePointer) (hd : P.underlying u = some (.pointer t)) (ht : P.info? t = some j)
    [r : Rd L b (.cells l.toArray T fr)] (hl : liesAt P P.depth T (l.length / P.cellsOf T) 0 t 1 = true) (h : K (.pointer (some ⟨b, 0, none⟩)) L) : SV P ro ⟨d, .convert s u x, ty, ps, af, gu⟩ f K L := by
  refine (SV.val (Go.convert s u (f.ev x)) (by intro c h; cases h) rfl ?_)
  rw [hx]
  exact SW.runs (fun Fr w y => Lib.run_from_unsafe w ⟨b, 0, none⟩ hs hd ht (shape_of (r.append y)) (by simpa using hl)) h
theorem SV.neqPtrSame {t te : TypeId} {yt : TypeId} {j : TypeInfo} {x y : Operand} {a : Addr} (hx : f.ev x = .pointer (some a)) (hy : f.ev y = .pointer (some a)) (hp : P.underlying t = some (.pointer te)) (hte : P.info? te = some j) (h : K (.bool false) L) :
    SV P ro ⟨d, .binOp .neq t x y yt, ty, ps, af, gu⟩ f K L := by
  refine SV.bin hx hy (fun w => ?_) h
  simp only [eqGuard]
  exact Lib.run_neq_ptr_same w a hp hte
theorem SV.capS {t e : TypeId} {x : Operand} {a : Option Addr} {n c : Nat} (hx : f.ev x = .slice a n c) [ht : TU P t (.slice e)] (h : K (.int .i64 (c : Nat)) L) :
    SV P ro ⟨d, .call { callee := .builtin .cap, args := #[x], argTypes := #[t] }, ty, ps, af, gu⟩ f K L := by
  refine SV.bi (vs := [.slice a n c]) (s := Builtin.cap_ #[t] ty #[.slice a n c]) (by simp [hx]) (fun _ => rfl) ?_
  unfold Builtin.cap_
  exact SW.bind (SW.underlying ht.h (SW.pure h))
/-- A copy of nothing. -/
theorem SV.copyZ {tS tX e sz : Nat} {x y : Operand} {a : Addr} {n c : Nat} (hx : f.ev x = .slice (some a) n c) (hy : f.ev y = .slice none 0 0) [he : TE P tS e sz] (h : K (.int .i64 0) L) :
    SV P ro ⟨d, .call { callee := .builtin .copy, args := #[x, y], argTypes := #[tS, tX] }, ty, ps, af, gu⟩ f K L := by
  obtain ⟨hs, hn'⟩ := elemOf_some he.h
  refine SV.bi (vs := [.slice (some a) n c, .slice none 0 0]) (s := Builtin.copy_ #[tS, tX] ty #[.slice (some a) n c, .slice none 0 0]) (by simp [hx, hy]) (fun _ => rfl) ?_
  unfold Builtin.copy_
  simp only [show (#[Value.slice (some a) n c, .slice none 0 0] : Array Value)[0]? = some (.slice (some a) n c) from rfl, show (#[Value.slice (some a) n c, .slice none 0 0] : Array Value)[1]? = some (.slice none 0 0) from rfl, show (#[tS, tX] : Array TypeId)[0]? = some tS from rfl]
  refine SW.bind (SW.underlying hs ?_)
  refine SW.bind (SW.ok (a := 0) (fun _ => rfl) ?_)
  rw [show Nat.min 0 n = 0 from Nat.zero_min n]
  refine SW.bind (SW.sizeOf hn' (SW.bind (SW.ok (a := #[]) (fun _ => rfl) ?_)))
  exact SW.bind (SW.pure (SW.pure h))
theorem SV.sliceData {t : TypeId} {x : Operand} {a : Addr} {n c : Nat} (hx : f.ev x = .slice (some a) n c) (hc : c ≠ 0) (h : K (.pointer (some a)) L) :
    SV P ro ⟨d, .call { callee := .builtin .unsafeSliceData, args := #[x], argTypes := #[t] }, ty, ps, af, gu⟩ f K L := by
  refine SV.bi (vs := [.slice (some a) n c]) (s := Builtin.unsafeSliceData_ #[t] ty #[.slice (some a) n c]) (by simp [hx]) (fun _ => rfl) ?_
  exact SW.ok (fun w => Lib.run_unsafeSliceData_row w #[t] ty a n c hc) h
theorem SV.unsafeStr {t t' E : TypeId} {x y : Operand} {b c : Nat} {bs : List UInt8} (hx : f.ev x = .pointer (some ⟨b, 0, none⟩)) (hy : f.ev y = .int .i64 (bs.length : Nat)) (ht : P.underlying t = some (.pointer E)) (hE : P.cellsOf E = 1)
    (k : Tk L (Own E 1 (.slice (some ⟨b, 0, none⟩) bs.length c) bs.length (bs.map u8V)) R) (h0 : bs ≠ []) (h63 : bs.length ≤ 9223372036854775807) (h : K (strV bs) R) :
    SV P ro ⟨d, .call { callee := .builtin .unsafeString, args := #[x, y], argTypes := #[t, t'] }, ty, ps, af, gu⟩ f K L := by
  refine SV.bi (vs := [.pointer (some ⟨b, 0, none⟩), .int .i64 (bs.length : Nat)]) (s := Builtin.unsafeString_ #[t, t'] ty #[.pointer (some ⟨b, 0, none⟩), .int .i64 (bs.length : Nat)]) (by simp [hx, hy]) (fun _ => rfl) ?_
  intro Fr w hw
  rcases has_own (k.app Fr _ hw) with ⟨h1, _⟩ | ⟨b', cap, sp, fr, ⟨h1, o2, o3, o4, o5⟩, hw3⟩
  · cases h1
  · injection h1 with h6 h7 h8
    injection h6 with h6
    injection h6 with h6
    subst h6; subst h8
    have hb := has_pts hw3
    have hn : bs.length ≠ 0 := fun z => h0 (List.length_eq_zero_iff.1 z)
    have hrun := Lib.run_unsafeString_row (P := P) w t t' ty E ht hE b ((bs.map u8V ++ sp).toArray).size (shape_of hb) bs h0 (by simp) h63 (by
      intro j x hj
      rw [add_none]
      rw [cell_of hb]
      have hlt : j < bs.length := (List.getElem?_eq_some_iff.1 hj).1
      simp [List.getElem?_append, hlt]
      have : bs[j] = x := by rw [List.getElem?_eq_getElem hlt] at hj; injection hj
      rw [this]; rfl)
    obtain ⟨_, w', L', a, hL, cc, dd⟩ := SW.freeze (P := P) (L := pts b (.cells (bs.map u8V ++ sp).toArray E fr) :: R) (b := b) (off := 0) (n := bs.length) (K := fun _ L' => L' = pts b (.cells (bs.map u8V ++ sp).toArray E (if fr.1 == fr.2 then (0, 0 + bs.length) else (min fr.1 0, max fr.2 (0 + bs.length)))) :: R) Wr.here hn rfl Fr w hw3
    subst hL
    have hw' : w' = w.freeze ⟨b, 0, none⟩ bs.length := by
      simp [Go.freeze, Sem.run] at a; exact a.symm
    subst hw'
    exact ⟨_, _, R, hrun, h, cc.tail, dd⟩
end
/-- Keys that are texts. -/
instance : KeyK strV kdS where
  same := by
    rintro d rfl i j
    simp only [strV, Instr.sameNow]
    congr 1
    refine Bool.eq_iff_iff.2 ?_
    rw [decide_eq_true_iff]
    constructor
    · intro h
      have h2 : (i.toArray == j.toArray) = true := h
      simpa using h2
    · rintro rfl
      exact (beq_self_eq_true i.toArray)
  stay i := by
    simp only [Instr.sameBits, strV]
    exact beq_self_eq_true i.toArray
  ok := by
    rintro P w d kt b i rfl ht
    rw [show (10000 : Nat) = 9999 + 1 from rfl, Instr.checkKey, Sem.run_bind, run_underlying ht, Result.andThen_ok]
    rfl
end Go.SL
