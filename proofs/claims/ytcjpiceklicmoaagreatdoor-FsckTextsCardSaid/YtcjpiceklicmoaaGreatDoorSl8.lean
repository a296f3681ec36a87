/- SL 8: cuts, copy, strings and bytes, what is built. Generic in the program. -/
import Derived.Test.YtcjpiceklicmoaaGreatDoorSl7
import Derived.Laws.Strings
import Derived.Laws.BytesString
namespace Go.SL
set_option linter.unusedVariables false
set_option linter.unusedSimpArgs false

section
variable {P : Program} {ro : Option Nat} {f : Frm} {L : List HP} {d : Option Nat} {ty : TypeId} {ps : String} {af : Array Edge} {gu : Option (Nat × Bool)} {K : Value → List HP → Prop}

/-- A bound of a cut: what the operand holds; none: the default. -/
def cutAt (f : Frm) (x : Option Operand) (dflt : Nat) (i : Nat) : Prop :=
  match x with
  | none => i = dflt
  | some y => ∃ k, f.ev y = .int k i
theorem cutAt.of {f : Frm} {y : Operand} {k : IntKind} {z : Int} {dflt i : Nat} (h : f.ev y = .int k z) (hz : z = i) : cutAt f (some y) dflt i := ⟨k, by rw [h, hz]⟩
theorem sliceBound_ok {P : Program} {w : World} {k : IntKind} {i y : Nat} {code : BoundsCode} (h : i ≤ y) : (Instr.sliceBound (.int k i) y code).run P w = .ok i w := by
  unfold Instr.sliceBound
  simp [asIntOf, h]
theorem sliceBounds_ok {P : Program} {w : World} {isS : Bool} {len cap l h : Nat} {lo hi : Option Operand} (hl : cutAt f lo 0 l) (hh : cutAt f hi len h) (h1 : l ≤ h) (h2 : h ≤ cap) :
    (Instr.sliceBounds isS len cap (lo.map f.ev) (hi.map f.ev) none).run P w = .ok (l, h, cap) w := by
  unfold Instr.sliceBounds
  cases lo with
  | none =>
    simp only [cutAt] at hl; subst hl
    cases hi with
    | none => simp only [cutAt] at hh; subst hh; simp
    | some y => obtain ⟨k, hk⟩ := hh; simp [hk, sliceBound_ok h2]
  | some x =>
    obtain ⟨k', hk'⟩ := hl
    cases hi with
    | none => simp only [cutAt] at hh; subst hh; simp [hk', sliceBound_ok h1]
    | some y => obtain ⟨k, hk⟩ := hh; simp [hk, hk', sliceBound_ok h1, sliceBound_ok h2]
/-- A cut of a slice. -/
theorem SV.cut {t e sz : Nat} {x : Operand} {lo hi : Option Operand} {b off len cap l h : Nat} (hx : f.ev x = .slice (some ⟨b, off, none⟩) len cap) [he : TE P t e sz] (hl : cutAt f lo 0 l) (hh : cutAt f hi len h) (h1 : l ≤ h) (h2 : h ≤ cap)
    (k : ∀ off', (l < cap ∨ l = 0 → off' = off + l * sz) → K (.slice (some ⟨b, off', none⟩) (h - l) (cap - l)) L) : SV P ro ⟨d, .slice t x lo hi none, ty, ps, af, gu⟩ f K L := by
  obtain ⟨hs, hn⟩ := elemOf_some he.h
  refine (SV.val (Instr.sliceAt t (f.ev x) (lo.map f.ev) (hi.map f.ev) (Option.map f.ev none)) (by intro c h; cases h) rfl ?_)
  rw [hx]
  unfold Instr.sliceAt
  refine SW.bind (SW.underlying hs ?_)
  unfold Instr.slice
  refine SW.bind (SW.underlying hs ?_)
  refine SW.bind (SW.runs (fun _ w _ => sliceBounds_ok hl hh h1 h2) ?_)
  refine SW.bind (SW.sizeOf hn (SW.pure ?_))
  by_cases hc : cap = l
  · rw [if_pos hc]; exact k off (fun g => by rcases g with g | g; omega; subst g; simp)
  · rw [if_neg hc]; simp only [Option.map_some, add_none]; exact k _ (fun _ => rfl)
/-- A cut of nil. -/
theorem SV.cutNil {t e sz : Nat} {x : Operand} {lo hi : Option Operand} (hx : f.ev x = .slice none 0 0) [he : TE P t e sz] (hl : cutAt f lo 0 0) (hh : cutAt f hi 0 0)
    (k : K (.slice none 0 0) L) : SV P ro ⟨d, .slice t x lo hi none, ty, ps, af, gu⟩ f K L := by
  obtain ⟨hs, hn⟩ := elemOf_some he.h
  refine (SV.val (Instr.sliceAt t (f.ev x) (lo.map f.ev) (hi.map f.ev) (Option.map f.ev none)) (by intro c h; cases h) rfl ?_)
  rw [hx]
  unfold Instr.sliceAt
  refine SW.bind (SW.underlying hs ?_)
  unfold Instr.slice
  refine SW.bind (SW.underlying hs ?_)
  refine SW.bind (SW.runs (fun _ w _ => sliceBounds_ok hl hh (Nat.le_refl _) (Nat.le_refl _)) ?_)
  exact SW.bind (SW.sizeOf hn (SW.pure k))
/-- A cut of an array in memory. -/
theorem SV.cutArr {t n e sz : Nat} {x : Operand} {lo hi : Option Operand} {b off l h : Nat} (hx : f.ev x = .pointer (some ⟨b, off, none⟩)) [he : TR P t n e sz] (hl : cutAt f lo 0 l) (hh : cutAt f hi n h) (h1 : l ≤ h) (h2 : h ≤ n)
    (k : ∀ off', (l < n ∨ l = 0 → off' = off + l * sz) → K (.slice (some ⟨b, off', none⟩) (h - l) (n - l)) L) : SV P ro ⟨d, .slice t x lo hi none, ty, ps, af, gu⟩ f K L := by
  obtain ⟨hs, hn⟩ := arrOf_some he.h
  refine (SV.val (Instr.sliceAt t (f.ev x) (lo.map f.ev) (hi.map f.ev) (Option.map f.ev none)) (by intro c h; cases h) rfl ?_)
  rw [hx]
  unfold Instr.sliceAt
  refine SW.bind (SW.underlying hs ?_)
  refine SW.bind (SW.pure ?_)
  refine SW.bind (SW.runs (fun _ w _ => sliceBounds_ok hl hh h1 h2) ?_)
  refine SW.bind (SW.sizeOf hn (SW.pure ?_))
  by_cases hc : n = l
  · rw [if_pos hc]; exact k off (fun g => by rcases g with g | g; omega; subst g; simp)
  · rw [if_neg hc]; simp only [add_none]; exact k _ (fun _ => rfl)

theorem extract_str (s : List UInt8) (l h : Nat) : (⟨s.toArray⟩ : ByteArray).extract l h = ⟨((s.take h).drop l).toArray⟩ := by
  apply ByteArray.ext
  rw [ByteArray.data_extract]
  apply Array.toList_inj.1
  simp
  rw [List.drop_take]
/-- A cut of a string. -/
theorem SV.cutStr {t : Nat} {x : Operand} {lo hi : Option Operand} {s s' : List UInt8} {l h : Nat} (hx : f.ev x = .string ⟨s.toArray⟩) [ht : TU P t .string] (hl : cutAt f lo 0 l) (hh : cutAt f hi s.length h) (h1 : l ≤ h) (h2 : h ≤ s.length) (hs : (s.take h).drop l = s')
    (k : K (.string ⟨s'.toArray⟩) L) : SV P ro ⟨d, .slice t x lo hi none, ty, ps, af, gu⟩ f K L := by
  subst hs
  refine (SV.val (Instr.sliceAt t (f.ev x) (lo.map f.ev) (hi.map f.ev) (Option.map f.ev none)) (by intro c h; cases h) rfl ?_)
  rw [hx]
  unfold Instr.sliceAt
  refine SW.bind (SW.underlying ht.h ?_)
  unfold Instr.slice
  refine SW.bind (SW.underlying ht.h ?_)
  simp only [Option.map_none, Option.isSome_none, Bool.false_eq_true, if_false]
  refine SW.bind (SW.runs (fun _ w _ => sliceBounds_ok (len := (⟨s.toArray⟩ : ByteArray).size) hl hh h1 h2) ?_)
  simp only [extract_str]
  exact SW.pure k

theorem toList_str (s : List UInt8) : (⟨s.toArray⟩ : ByteArray).toList = s := ByteArray.toList_mk s
theorem SV.concat {t yt : TypeId} {x y : Operand} {a b : List UInt8} (hx : f.ev x = .string ⟨a.toArray⟩) (hy : f.ev y = .string ⟨b.toArray⟩) (hl : a.length + b.length ≤ 9223372036854775807)
    (h : K (.string ⟨(a ++ b).toArray⟩) L) : SV P ro ⟨d, .binOp .add t x y yt, ty, ps, af, gu⟩ f K L := by
  refine SV.bin hx hy (fun w => ?_) h
  have h1 : ¬ (((⟨a.toArray⟩ : ByteArray).size + (⟨b.toArray⟩ : ByteArray).size : Nat) : Int) > IntKind.i64.max := by
    have : IntKind.i64.max = 9223372036854775807 := by decide
    rw [this]
    show ¬ ((a.length + b.length : Nat) : Int) > _
    omega
  have h2 : (⟨a.toArray⟩ : ByteArray) ++ ⟨b.toArray⟩ = ⟨(a ++ b).toArray⟩ := by
    apply ByteArray.ext; simp
  simp only [eqGuard, Go.binOp, Op.stringOp]
  rw [if_neg h1, h2]; rfl
theorem strEq (a b : List UInt8) : ((⟨a.toArray⟩ : ByteArray).toList == (⟨b.toArray⟩ : ByteArray).toList) = decide (a = b) := by rw [toList_str, toList_str, Bool.eq_iff_iff]; simp
theorem SV.eqlS {t yt : TypeId} {x y : Operand} {a b : List UInt8} (hx : f.ev x = .string ⟨a.toArray⟩) (hy : f.ev y = .string ⟨b.toArray⟩)
    (h : K (.bool (decide (a = b))) L) : SV P ro ⟨d, .binOp .eql t x y yt, ty, ps, af, gu⟩ f K L :=
  SV.bin hx hy (fun w => by simp only [eqGuard, Go.binOp, Op.stringOp, strEq]; rfl) h
theorem SV.neqS {t yt : TypeId} {x y : Operand} {a b : List UInt8} (hx : f.ev x = .string ⟨a.toArray⟩) (hy : f.ev y = .string ⟨b.toArray⟩)
    (h : K (.bool (!decide (a = b))) L) : SV P ro ⟨d, .binOp .neq t x y yt, ty, ps, af, gu⟩ f K L :=
  SV.bin hx hy (fun w => by simp only [eqGuard, Go.binOp, Op.stringOp, strEq]; rfl) h

/-- Bytes as a string. -/
theorem bytes_str {P : Program} {w : World} {b off n : Nat} {cs : Array Value} {T : TypeId} {fr : Nat × Nat} {bs : List UInt8} (e : heapOf w b = some (.cells cs T fr)) (hn : off + n ≤ cs.size) (hb : cellsAt cs off n = bs.map u8V) (cap : Nat) :
    (Conv.bytesToString (.slice (some ⟨b, off, none⟩) n cap)).run P w = .ok (.string ⟨bs.toArray⟩) w := by
  have h1 := run_bytesToString (P := P) w ⟨b, off, none⟩ n cap (bs.map fun c => (c.toNat : Int)) (by rw [run_loadCells e hn, hb]; congr 2; simp [u8V])
  rw [h1]
  congr 2
  have key : ∀ (bs : List UInt8) (s : ByteArray), (bs.map fun c => (c.toNat : Int)).foldl (fun r n => r.push (UInt8.ofNat n.toNat)) s = ⟨(s.data.toList ++ bs).toArray⟩ := by
    intro bs
    induction bs with
    | nil => intro s; apply ByteArray.ext; simp
    | cons c bs ih =>
      intro s
      simp only [List.map_cons, List.foldl_cons]
      rw [ih]
      apply ByteArray.ext
      apply Array.toList_inj.1
      simp [ByteArray.push]
  rw [key]; rfl
theorem SV.toStr {s u e : TypeId} {x : Operand} {b off n cap : Nat} {l : List Value} {T : TypeId} {fr : Nat × Nat} {bs : List UInt8} (hx : f.ev x = .slice (some ⟨b, off, none⟩) n cap) [hs : TU P s (.slice e)] [he : TU P e (.int .u8)] [hu : TU P u .string]
    [r : Rd L b (.cells l.toArray T fr)] (hn : off + n ≤ l.length) (hb : lsub l off n = bs.map u8V) (h : K (.string ⟨bs.toArray⟩) L) : SV P ro ⟨d, .convert s u x, ty, ps, af, gu⟩ f K L := by
  refine (SV.val (Go.convert s u (f.ev x)) (by intro c h; cases h) rfl ?_)
  rw [hx]
  refine SW.bind (SW.underlying hs.h (SW.bind (SW.underlying hu.h (SW.bind (SW.underlying he.h ?_)))))
  exact SW.runs (fun Fr w x => bytes_str (r.append x) (by simpa using hn) (by rw [cellsAt_lsub _ _ _ hn]; exact hb) cap) h
theorem SV.toStrNil {s u e : TypeId} {x : Operand} (hx : f.ev x = .slice none 0 0) [hs : TU P s (.slice e)] [he : TU P e (.int .u8)] [hu : TU P u .string]
    (h : K (.string ⟨([] : List UInt8).toArray⟩) L) : SV P ro ⟨d, .convert s u x, ty, ps, af, gu⟩ f K L := by
  refine (SV.val (Go.convert s u (f.ev x)) (by intro c h; cases h) rfl ?_)
  rw [hx]
  refine SW.bind (SW.underlying hs.h (SW.bind (SW.underlying hu.h (SW.bind (SW.underlying he.h ?_)))))
  exact SW.pure h
/-- Of a slice of the call's own. -/
theorem SV.toStrO {s u e E n : TypeId} {x : Operand} {v : Value} {bs : List UInt8} {R : List HP} (hx : f.ev x = v) [hs : TU P s (.slice e)] [he : TU P e (.int .u8)] [hu : TU P u .string] (t : Tk L (Own E 1 v n (bs.map u8V)) R)
    (h : K (.string ⟨bs.toArray⟩) L) : SV P ro ⟨d, .convert s u x, ty, ps, af, gu⟩ f K L := by
  refine (SV.val (Go.convert s u (f.ev x)) (by intro c h; cases h) rfl ?_)
  rw [hx]
  have hv : ∀ Fr w, Has (L ++ Fr) (heapOf w) → (Conv.bytesToString v).run P w = .ok (.string ⟨bs.toArray⟩) w := by
    intro Fr w y
    rcases has_own (t.app Fr _ y) with ⟨rfl, h2, h3⟩ | ⟨b, cap, sp, fr, ⟨rfl, o2, o3, o4, o5⟩, z⟩
    · have : bs = [] := by simpa using h3
      subst this; rfl
    · have hl : n = (bs.map u8V).length := by rw [o3, Nat.mul_one]
      refine bytes_str (has_pts z) (by rw [hl]; simp) ?_ cap
      rw [hl, cellsAt_zero]
  have hvs : ∃ a b c, v = .slice a b c ∨ True := ⟨none, 0, 0, .inr trivial⟩
  intro Fr w y
  rcases has_own (t.app Fr _ y) with ⟨rfl, h2, h3⟩ | ⟨b, cap, sp, fr, ⟨rfl, o2, o3, o4, o5⟩, z⟩
  · exact SW.bind (SW.underlying hs.h (SW.bind (SW.underlying hu.h (SW.bind (SW.underlying he.h (SW.runs hv h)))))) Fr w y
  · exact SW.bind (SW.underlying hs.h (SW.bind (SW.underlying hu.h (SW.bind (SW.underlying he.h (SW.runs hv h)))))) Fr w y

/-- A slice literal without elements. -/
theorem SV.lit0 {t e sz : Nat} [he : TE P t e sz] (h : ∀ b, K (.slice (some ⟨b, 0, none⟩) 0 0) (pts b (.cells ([] : List Value).toArray e) :: L)) :
    SV P ro ⟨d, .buildSlice t 0 #[], ty, ps, af, gu⟩ f K L := by
  obtain ⟨hs, hn⟩ := elemOf_some he.h
  refine (SV.val (Instr.buildSlice t 0 #[]) (by intro c h; cases h) (by simp only [execOp, List.map_toArray, List.map_nil]) ?_)
  unfold Instr.buildSlice
  refine SW.bind (SW.underlying hs (SW.bind (SW.sizeOf hn ?_)))
  simp only [Nat.zero_mul]
  refine SW.bind (SW.pure ?_)
  have e0 : ∀ g : Nat → Value, (Array.range 0).map g = #[] := fun g => by apply Array.ext <;> simp
  rw [e0]
  simp only [Instr.fill]
  exact SW.bind (SW.bind (SW.new fun b => SW.pure (SW.pure (h b))))
end
end Go.SL
