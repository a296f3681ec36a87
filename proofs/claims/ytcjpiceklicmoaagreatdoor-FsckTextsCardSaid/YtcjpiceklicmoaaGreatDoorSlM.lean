/- Maps whose keys are numbers, or texts. Generic in the program. -/
import Derived.Test.YtcjpiceklicmoaaGreatDoorSlK
import GoSem.Instr.MapUpdate
namespace Go.SL
set_option linter.unusedVariables false
set_option linter.unusedSimpArgs false
set_option linter.unusedSectionVars false

/-- What keys are told apart by. -/
class KeyK {κ : Type} [DecidableEq κ] (enc : κ → Value) (kd : outParam (TypeDesc → Prop)) : Prop where
  same : ∀ d, kd d → ∀ i j, Instr.sameNow d (enc i) (enc j) = some (decide (i = j))
  stay : ∀ i, Instr.sameBits 10000 (enc i) (enc i) = true
  ok : ∀ (P : Program) (w : World) d kt b i, kd d → P.underlying kt = some d → (Instr.checkKey b 10000 kt (enc i)).run P w = .ok () w
def kdI (d : TypeDesc) : Prop := ∃ k, d = .int k
def kdS (d : TypeDesc) : Prop := d = .string
instance (k : IntKind) : KeyK (Value.int k) kdI where
  same := by
    rintro d ⟨k', rfl⟩ i j
    simp [Instr.sameNow]
    exact Bool.eq_iff_iff.2 (by simp)
  stay i := by simp [Instr.sameBits]
  ok := by
    rintro P w d kt b i ⟨k', rfl⟩ ht
    rw [show (10000 : Nat) = 9999 + 1 from rfl, Instr.checkKey, Sem.run_bind, run_underlying ht, Result.andThen_ok]
    rfl
section
variable {κ : Type} [DecidableEq κ]
def mget : List (κ × Value) → κ → Option Value
  | [], _ => none
  | (j, v) :: l, i => if i = j then some v else mget l i
def mset : List (κ × Value) → κ → Value → List (κ × Value)
  | [], i, v => [(i, v)]
  | (j, u) :: l, i, v => if i = j then (i, v) :: l else (j, u) :: mset l i v
theorem mget_mset (l : List (κ × Value)) (i j : κ) (v : Value) : mget (mset l i v) j = if j = i then some v else mget l j := by
  induction l with
  | nil => simp [mset, mget]
  | cons p l ih =>
    obtain ⟨a, u⟩ := p
    unfold mset
    by_cases h : i = a
    · subst h
      rw [if_pos rfl]
      unfold mget
      by_cases h2 : j = i
      · rw [if_pos h2, if_pos h2]
      · rw [if_neg h2, if_neg h2, if_neg h2]
    · rw [if_neg h]
      unfold mget
      rw [ih]
      by_cases h2 : j = a
      · rw [if_pos h2, if_pos h2, if_neg (fun e => h (e.symm.trans h2))]
      · rw [if_neg h2, if_neg h2]
theorem mset_new (l : List (κ × Value)) (i : κ) (v : Value) (h : mget l i = none) : mset l i v = l ++ [(i, v)] := by
  induction l with
  | nil => rfl
  | cons p l ih =>
    obtain ⟨a, u⟩ := p
    unfold mget at h
    by_cases e : i = a
    · rw [if_pos e] at h; cases h
    · rw [if_neg e] at h
      unfold mset
      rw [if_neg e, ih h]; rfl
/-- The entries, without when they came. -/
def mapE (enc : κ → Value) (l : List (κ × Value)) (es : List MapEntry) : Prop := es.map (fun e => (e.key, e.val)) = l.map (fun p => (enc p.1, p.2))
/-- When the entries came: one after the other, and none of them later than now. -/
def bornOk (bs : List Nat) (cl : Nat) : Prop := bs.Pairwise (· < ·) ∧ ∀ x ∈ bs, x < cl
theorem bornOk.nil {cl : Nat} : bornOk [] cl := ⟨List.Pairwise.nil, fun _ h => by cases h⟩
theorem bornOk.snoc {bs : List Nat} {cl : Nat} (h : bornOk bs cl) : bornOk (bs ++ [cl]) (cl + 1) := by
  refine ⟨List.pairwise_append.2 ⟨h.1, List.pairwise_singleton _ _, fun a ha b hb => ?_⟩, fun x hx => ?_⟩
  · rw [List.mem_singleton.1 hb]; exact h.2 a ha
  · rcases List.mem_append.1 hx with q | q
    · exact Nat.lt_succ_of_lt (h.2 x q)
    · rw [List.mem_singleton.1 q]; exact Nat.lt_succ_self _
theorem born_modify (es : List MapEntry) (f : MapEntry → MapEntry) (hf : ∀ e, (f e).born = e.born) : ∀ m, (es.modify m f).map (·.born) = es.map (·.born) := by
  induction es with
  | nil => intro m; cases m <;> rfl
  | cons e es ih =>
    intro m
    cases m with
    | zero => simp [hf]
    | succ m => simp [ih m]
theorem mset_keys (l : List (κ × Value)) (i : κ) (v : Value) (h : (l.map (·.1)).Nodup) : ((mset l i v).map (·.1)).Nodup ∧ ∀ k, k ∈ (mset l i v).map (·.1) ↔ k = i ∨ k ∈ l.map (·.1) := by
  induction l with
  | nil => exact ⟨by simp [mset], by intro k; simp [mset]⟩
  | cons p l ih =>
    obtain ⟨a, u⟩ := p
    simp only [List.map_cons, List.nodup_cons] at h
    obtain ⟨h1, h2⟩ := ih h.2
    unfold mset
    by_cases e : i = a
    · subst e
      rw [if_pos rfl]
      refine ⟨by simp only [List.map_cons, List.nodup_cons]; exact h, fun k => by simp⟩
    · rw [if_neg e]
      refine ⟨by simp only [List.map_cons, List.nodup_cons]; exact ⟨fun z => (h2 a).1 z |>.elim (fun q => e q.symm) h.1, h1⟩, fun k => ?_⟩
      simp only [List.map_cons, List.mem_cons]
      rw [h2 k]
      constructor
      · rintro (q | q | q)
        · exact .inr (.inl q)
        · exact .inl q
        · exact .inr (.inr q)
      · rintro (q | q | q)
        · exact .inr (.inl q)
        · exact .inl q
        · exact .inr (.inr q)
/-- What is so of a map's entries. -/
structure MapP (enc : κ → Value) (l : List (κ × Value)) (es : List MapEntry) (cl : Nat) : Prop where
  e : mapE enc l es
  b : bornOk (es.map (·.born)) cl
  n : (l.map (·.1)).Nodup
/-- A map of one's own. -/
def MapH (b : Nat) (enc : κ → Value) (l : List (κ × Value)) : HP := hex fun q : List MapEntry × Nat => conj [hpure (MapP enc l q.1 q.2), pts b (.map q.1.toArray q.2)]
variable {enc : κ → Value} {kd : TypeDesc → Prop} [kk : KeyK enc kd]
include kk
theorem findNow_key {d : TypeDesc} (hd : kd d) {i : κ} : ∀ (l : List (κ × Value)) (es : List MapEntry) (n : Nat), mapE enc l es →
    (mget l i = none ∧ Instr.findNow d (enc i) es n = some none ∧ ∀ e : MapEntry, ∀ v, e.key = enc i → e.val = v → mapE enc (mset l i v) (es ++ [e])) ∨
    (∃ m v, mget l i = some v ∧ Instr.findNow d (enc i) es n = some (some (n + m, v)) ∧ (∃ e, es[m]? = some e ∧ e.key = enc i) ∧ ∀ (f : MapEntry → MapEntry) (u : Value), (∀ e, (f e).key = enc i ∧ (f e).val = u) → mapE enc (mset l i u) (es.modify m f))
  | [], es, n, h => by
    have : es = [] := by simpa [mapE] using h
    subst this
    left
    refine ⟨rfl, rfl, fun e v h1 h2 => ?_⟩
    simp [mapE, mset, h1, h2]
  | (j, v) :: l, [], n, h => by simp [mapE] at h
  | (j, v) :: l, e :: es, n, h => by
    simp only [mapE, List.map_cons, List.cons.injEq, Prod.mk.injEq] at h
    obtain ⟨⟨h1, h2⟩, h3⟩ := h
    have ih := findNow_key hd (i := i) l es (n + 1) h3
    have hs : Instr.sameNow d (enc i) e.key = some (decide (i = j)) := by rw [h1]; exact kk.same d hd i j
    by_cases hij : i = j
    · subst hij
      right
      refine ⟨0, v, by simp [mget], ?_, ⟨e, rfl, h1⟩, fun f u hf => ?_⟩
      · unfold Instr.findNow
        rw [hs]
        simp [h2]
      · obtain ⟨f1, f2⟩ := hf e
        simp [mapE, mset, f1, f2, h3]
    · have hne : decide (i = j) = false := by simpa using hij
      have hg : mget ((j, v) :: l) i = mget l i := by conv => lhs; unfold mget
                                                      rw [if_neg hij]
      have hset : ∀ u, mset ((j, v) :: l) i u = (j, v) :: mset l i u := fun u => by
        show (if i = j then _ else _) = _
        rw [if_neg hij]
      have hfind : Instr.findNow d (enc i) (e :: es) n = Instr.findNow d (enc i) es (n + 1) := by
        conv => lhs; unfold Instr.findNow
        rw [hs, hne]
      rcases ih with ⟨g1, g2, g3⟩ | ⟨m, u, g1, g2, ⟨e', g3, g3'⟩, g4⟩
      · left
        refine ⟨by rw [hg]; exact g1, by rw [hfind]; exact g2, fun e' w w1 w2 => ?_⟩
        have := g3 e' w w1 w2
        rw [hset]
        simp only [mapE, List.cons_append, List.map_cons, List.cons.injEq, Prod.mk.injEq]
        exact ⟨⟨h1, h2⟩, this⟩
      · right
        refine ⟨m + 1, u, by rw [hg]; exact g1, by rw [hfind, g2]; congr 3; omega, ⟨e', by simpa using g3, g3'⟩, fun f w hf => ?_⟩
        have := g4 f w hf
        rw [hset]
        simp only [mapE, List.modify_succ_cons, List.map_cons, List.cons.injEq, Prod.mk.injEq]
        exact ⟨⟨h1, h2⟩, this⟩
variable {P : Program} {L R : List HP}
theorem findKey_key {kt : TypeId} {d : TypeDesc} {i : κ} {w : World} {es : List MapEntry} {r : Option (Nat × Value)} (ht : P.underlying kt = some d) (h : Instr.findNow d (enc i) es 0 = some r) : (Instr.findKey kt (enc i) es).run P w = .ok r w := by
  unfold Instr.findKey
  rw [Sem.run_bind, run_underlying ht, Result.andThen_ok, h]
  rfl
variable {ro : Option Nat} {f : Frm} {d : Option Nat} {ty : TypeId} {ps : String} {af : Array Edge} {gu : Option (Nat × Bool)} {K : Value → List HP → Prop}
theorem MapH.opens {α : Type} {b : Nat} {l : List (κ × Value)} {s : Sem α} {K : α → List HP → Prop} (c : Tk L (MapH b enc l) R) (h : ∀ es cl, MapP enc l es cl → SW P s K (pts b (.map es.toArray cl) :: R)) : SW P s K L := by
  intro Fr w x
  have x1 := has_hex.1 (c.app Fr _ x)
  obtain ⟨⟨es, cl⟩, x2⟩ := x1
  have x3 := has_conj.1 x2
  obtain ⟨hm, x4⟩ := has_pure.1 x3
  exact h es cl hm Fr w x4
theorem MapH.close {b : Nat} {l : List (κ × Value)} {es : List MapEntry} {cl : Nat} (h : MapP enc l es cl) : Ent (pts b (.map es.toArray cl) :: R) (MapH b enc l :: R) :=
  Ent.closeI (p := fun q : List MapEntry × Nat => MapP enc l q.1 q.2) (M := fun q => [pts b (.map q.1.toArray q.2)]) (es, cl) h (Ent.refl _)
theorem SV.mkMap {t : TypeId} (h : ∀ b, K (.map (some b)) (MapH b enc [] :: L)) : SV P ro ⟨d, .makeMap t none, ty, ps, af, gu⟩ f K L := by
  refine (SV.val (Instr.makeMap t none) (by intro c h; cases h) rfl ?_)
  unfold Instr.makeMap
  refine SW.bind (SW.new fun b => ?_)
  exact SW.ent (MapH.close (enc := enc) (l := []) ⟨rfl, bornOk.nil, List.nodup_nil⟩) (SW.pure (h b))
theorem SV.mkMapN {t kt et : TypeId} {x : Operand} {k : IntKind} {n : Int} [ht : TU P t (.map kt et)] (hx : f.ev x = .int k n) (h : ∀ b, K (.map (some b)) (MapH b enc [] :: L)) : SV P ro ⟨d, .makeMap t (some x), ty, ps, af, gu⟩ f K L := by
  refine (SV.val (Instr.makeMap t (some (f.ev x))) (by intro c h; cases h) rfl ?_)
  rw [hx]
  unfold Instr.makeMap
  refine SW.bind (SW.underlying ht.h (SW.bind (SW.pure (SW.bind (SW.new fun b => ?_)))))
  exact SW.ent (MapH.close (enc := enc) (l := []) ⟨rfl, bornOk.nil, List.nodup_nil⟩) (SW.pure (h b))
theorem SW.zeroAt {et : TypeId} {z : Value} {K : Value → List HP → Prop} (hz : tyZero P et = some z) (h : K z L) : SW P (Go.zeroValue et) K L := by
  refine SW.ok (fun w => ?_) h
  unfold tyZero at hz
  cases hi : P.info? et with
  | none => simp [hi] at hz
  | some i => simp [hi] at hz; simp [Go.zeroValue, Go.typeInfo, Go.program, Sem.run, hi, hz]
theorem SV.lookup2 {t kt et b : Nat} {x y : Operand} {kdd : TypeDesc} {i : κ} {l : List (κ × Value)} {z : Value} (hx : f.ev x = .map (some b)) (hy : f.ev y = enc i) [ht : TU P t (.map kt et)] [hk : TU P kt kdd] (hkd : kd kdd) (hz : tyZero P et = some z) (c : Tk L (MapH b enc l) R)
    (h : K (.tuple #[(mget l i).getD z, .bool (mget l i).isSome]) L) : SV P ro ⟨d, .lookup t x y true, ty, ps, af, gu⟩ f K L := by
  refine (SV.val (Instr.lookup t (f.ev x) (f.ev y) true) (by intro c h; cases h) rfl ?_)
  rw [hx, hy]
  refine SW.runs (a := .tuple #[(mget l i).getD z, .bool (mget l i).isSome]) (fun Fr w hw => ?_) h
  have hw2 := has_hex.1 (c.app Fr _ hw)
  obtain ⟨⟨es, cl⟩, hw3⟩ := hw2
  have hw4 := has_conj.1 hw3
  obtain ⟨hm, hw5⟩ := has_pure.1 hw4
  have e : w.heap[b]? = some (.map es.toArray cl) := has_pts hw5
  have g : (Go.getObj b).run P w = .ok (.map es.toArray cl) w := by simp [Go.getObj, Sem.run, e]
  have zr : (Go.zeroValue et).run P w = .ok z w := by
    unfold tyZero at hz
    cases hi : P.info? et with
    | none => simp [hi] at hz
    | some i => simp [hi] at hz; simp [zeroValue, typeInfo, Go.program, Sem.run, hi, hz]
  unfold Instr.lookup
  rw [Sem.run_bind, run_underlying ht.h, Result.andThen_ok]
  simp only [Sem.run_bind, g, Result.andThen_ok, Sem.run_pure, kk.ok P w kdd kt _ i hkd hk.h]
  rcases findNow_key hkd (i := i) l es 0 hm.e with ⟨q1, q2, _⟩ | ⟨m, v, q1, q2, _⟩
  · rw [findKey_key hk.h q2, q1]
    simp only [Result.andThen_ok, Sem.run_bind, zr, Sem.run_pure]
    rfl
  · rw [findKey_key hk.h q2, q1]
    simp only [Result.andThen_ok, Sem.run_bind, Sem.run_pure]
    rfl
theorem SV.lookup1 {t kt et b : Nat} {x y : Operand} {kdd : TypeDesc} {i : κ} {l : List (κ × Value)} {z : Value} (hx : f.ev x = .map (some b)) (hy : f.ev y = enc i) [ht : TU P t (.map kt et)] [hk : TU P kt kdd] (hkd : kd kdd) (hz : tyZero P et = some z) (c : Tk L (MapH b enc l) R)
    (h : K ((mget l i).getD z) L) : SV P ro ⟨d, .lookup t x y false, ty, ps, af, gu⟩ f K L := by
  refine (SV.val (Instr.lookup t (f.ev x) (f.ev y) false) (by intro c h; cases h) rfl ?_)
  rw [hx, hy]
  refine SW.runs (a := (mget l i).getD z) (fun Fr w hw => ?_) h
  have hw2 := has_hex.1 (c.app Fr _ hw)
  obtain ⟨⟨es, cl⟩, hw3⟩ := hw2
  have hw4 := has_conj.1 hw3
  obtain ⟨hm, hw5⟩ := has_pure.1 hw4
  have e : w.heap[b]? = some (.map es.toArray cl) := has_pts hw5
  have g : (Go.getObj b).run P w = .ok (.map es.toArray cl) w := by simp [Go.getObj, Sem.run, e]
  have zr : (Go.zeroValue et).run P w = .ok z w := by
    unfold tyZero at hz
    cases hi : P.info? et with
    | none => simp [hi] at hz
    | some i => simp [hi] at hz; simp [zeroValue, typeInfo, Go.program, Sem.run, hi, hz]
  unfold Instr.lookup
  rw [Sem.run_bind, run_underlying ht.h, Result.andThen_ok]
  simp only [Sem.run_bind, g, Result.andThen_ok, Sem.run_pure, kk.ok P w kdd kt _ i hkd hk.h]
  rcases findNow_key hkd (i := i) l es 0 hm.e with ⟨q1, q2, _⟩ | ⟨m, v, q1, q2, _⟩
  · rw [findKey_key hk.h q2, q1]
    simp only [Result.andThen_ok, Sem.run_bind, zr, Sem.run_pure]
    rfl
  · rw [findKey_key hk.h q2, q1]
    simp only [Result.andThen_ok, Sem.run_bind, Sem.run_pure]
    rfl
omit kk in
theorem SW.setObjE {b : Nat} {o o' : Obj} {M : Obj → List HP} {N : List HP} {K : Unit → List HP → Prop} (r : Wr L b o M) (ho : noCells o = true) (e : Ent (M o') N) (h : K () N) : SW P (Go.setObj b o') K L := by
  intro Fr w x
  obtain ⟨r, w', L', a, b, c, d⟩ := (SW.setObj (K := fun _ L' => L' = M o') r ho rfl : SW P _ _ L) Fr w x
  subst b
  exact ⟨(), w', N, a, h, e.app Fr _ c, d⟩
theorem SW.mapUpdate {t kt et b : Nat} {kdd : TypeDesc} {i : κ} {v : Value} {l : List (κ × Value)} {K : Unit → List HP → Prop} (ht : P.underlying t = some (.map kt et)) (hk : P.underlying kt = some kdd) (hkd : kd kdd) (c : Tk L (MapH b enc l) R)
    (h : K () (MapH b enc (mset l i v) :: R)) : SW P (Instr.mapUpdate t (.map (some b)) (enc i) v) K L := by
  refine MapH.opens c fun es cl hm => ?_
  unfold Instr.mapUpdate
  refine SW.bind (SW.underlying ht ?_)
  refine SW.bind (SW.getObj Rd.here rfl ?_)
  refine SW.bind (SW.ok (fun w => kk.ok P w kdd kt _ i hkd hk) ?_)
  rcases findNow_key hkd (i := i) l es 0 hm.e with ⟨q1, q2, q3⟩ | ⟨m, u, q1, q2, ⟨e, q3, q4⟩, q5⟩
  · refine SW.bind (SW.ok (fun w => findKey_key hk q2) ?_)
    refine SW.setObjE Wr.here rfl ?_ h
    rw [show es.toArray.push ({ key := enc i, val := v, born := cl } : MapEntry) = (es ++ [({ key := enc i, val := v, born := cl } : MapEntry)]).toArray by simp]
    exact MapH.close ⟨q3 _ v rfl rfl, by rw [List.map_append]; exact hm.b.snoc, (mset_keys l i v hm.n).1⟩
  · refine SW.bind (SW.ok (fun w => findKey_key hk q2) ?_)
    dsimp only
    have e1 : ((es.toArray[0 + m]?).map (·.key)).getD (enc i) = enc i := by
      rw [Nat.zero_add, List.getElem?_toArray, q3]; exact q4
    have e2 : Instr.keyThatStays (((es.toArray[0 + m]?).map (·.key)).getD (enc i)) (enc i) = (Pure.pure (enc i) : Sem Value) := by
      rw [e1]; unfold Instr.keyThatStays; rw [if_pos (kk.stay i)]
    rw [e2]
    refine SW.bind (SW.pure ?_)
    refine SW.setObjE Wr.here rfl ?_ h
    rw [show es.toArray.modify (0 + m) (fun e => { e with key := enc i, val := v }) = (es.modify m (fun e => { e with key := enc i, val := v })).toArray by rw [Nat.zero_add]; simp]
    exact MapH.close ⟨q5 _ v fun _ => ⟨rfl, rfl⟩, by rw [show (List.map (fun x => x.born) (es.modify m fun e => { e with key := enc i, val := v })) = es.map (·.born) from born_modify es (fun e => { e with key := enc i, val := v }) (fun _ => rfl) m]; exact hm.b, (mset_keys l i v hm.n).1⟩
theorem SV.mapPut {t kt et b : Nat} {x y z : Operand} {kdd : TypeDesc} {i : κ} {v : Value} {l : List (κ × Value)} (hx : f.ev x = .map (some b)) (hy : f.ev y = enc i) (hz : f.ev z = v) [ht : TU P t (.map kt et)] [hk : TU P kt kdd] (hkd : kd kdd) (c : Tk L (MapH b enc l) R)
    (h : K undef (MapH b enc (mset l i v) :: R)) : SV P ro ⟨d, .mapUpdate t x y z, ty, ps, af, gu⟩ f K L := by
  refine (SV.unit (Instr.mapUpdate t (f.ev x) (f.ev y) (f.ev z)) (by intro c h; cases h) rfl ?_)
  rw [hx, hy, hz]
  exact SW.mapUpdate ht.h hk.h hkd c h
theorem SV.mapIns {t kt et b : Nat} {x y z : Operand} {kdd : TypeDesc} {i : κ} {v : Value} {l : List (κ × Value)} (hx : f.ev x = .map (some b)) (hy : f.ev y = enc i) (hz : f.ev z = v) [ht : TU P t (.map kt et)] [hk : TU P kt kdd] (hkd : kd kdd) (c : Tk L (MapH b enc l) R)
    (h : K undef (MapH b enc (mset l i v) :: R)) : SV P ro ⟨d, .insert t x y z, ty, ps, af, gu⟩ f K L := by
  refine (SV.unit (Instr.mapUpdate t (f.ev x) (f.ev y) (f.ev z)) (by intro c h; cases h) rfl ?_)
  rw [hx, hy, hz]
  exact SW.mapUpdate ht.h hk.h hkd c h
end
end Go.SL
