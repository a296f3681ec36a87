/- Ranges over a map; a key let go. Generic in the program. -/
import Derived.Test.YtcjpiceklicmoaaGreatDoorSlZ
import Derived.Test.YtcjpiceklicmoaaGreatDoorSlM
import GoSem.Instr.Next
import GoSem.Instr.Range
import GoSem.Builtin.Delete
namespace Go.SL
set_option linter.unusedVariables false
set_option linter.unusedSimpArgs false
set_option linter.unusedSectionVars false
section
variable {κ : Type} [DecidableEq κ]
def mdel : List (κ × Value) → κ → List (κ × Value)
  | [], _ => []
  | (j, u) :: l, i => if i = j then l else (j, u) :: mdel l i
/-- What is so while a map is ranged over: which of its entries were told, in which order. -/
structure RngP (enc : κ → Value) (l : List (κ × Value)) (seen : List κ) (es : List MapEntry) (cl : Nat) (js : List Nat) : Prop where
  m : MapP enc l es cl
  d : js.Nodup
  b : ∀ j ∈ js, j < es.length
  s : seen = js.filterMap (fun j => (l[j]?).map (·.1))
/-- A map of one's own, and a range over it. -/
def RngH (b r : Nat) (enc : κ → Value) (l : List (κ × Value)) (seen : List κ) : HP := hex fun q : List MapEntry × Nat × List Nat =>
  conj [hpure (RngP enc l seen q.1 q.2.1 q.2.2), pts b (.map q.1.toArray q.2.1), pts r (.mapIter (some b) q.2.1 (q.2.2.filterMap fun j => (q.1[j]?).map (·.born)).toArray q.2.1)]
variable {enc : κ → Value} {kd : TypeDesc → Prop} [kk : KeyK enc kd]
variable {P : Program} {L R : List HP}
variable {ro : Option Nat} {f : Frm} {d : Option Nat} {ty : TypeId} {ps : String} {af : Array Edge} {gu : Option (Nat × Bool)} {K : Value → List HP → Prop}
include kk
theorem RngH.opens {α : Type} {b r : Nat} {l : List (κ × Value)} {seen : List κ} {s : Sem α} {K : α → List HP → Prop} (c : Tk L (RngH b r enc l seen) R)
    (h : ∀ es cl js, RngP enc l seen es cl js → SW P s K (pts b (.map es.toArray cl) :: pts r (.mapIter (some b) cl (js.filterMap fun j => (es[j]?).map (·.born)).toArray cl) :: R)) : SW P s K L := by
  intro Fr w x
  obtain ⟨⟨es, cl, js⟩, x2⟩ := has_hex.1 (c.app Fr _ x)
  obtain ⟨hm, x4⟩ := has_pure.1 (has_conj.1 x2)
  exact h es cl js hm Fr w x4
theorem RngH.close {b r : Nat} {l : List (κ × Value)} {seen : List κ} {es : List MapEntry} {cl : Nat} {js : List Nat} (h : RngP enc l seen es cl js) :
    Ent (pts b (.map es.toArray cl) :: pts r (.mapIter (some b) cl (js.filterMap fun j => (es[j]?).map (·.born)).toArray cl) :: R) (RngH b r enc l seen :: R) :=
  Ent.closeI (p := fun q : List MapEntry × Nat × List Nat => RngP enc l seen q.1 q.2.1 q.2.2) (M := fun q => [pts b (.map q.1.toArray q.2.1), pts r (.mapIter (some b) q.2.1 (q.2.2.filterMap fun j => (q.1[j]?).map (·.born)).toArray q.2.1)]) (es, cl, js) h (Ent.refl _)
/-- The range is over: the map is as it was. -/
theorem RngH.over {b r : Nat} {l : List (κ × Value)} {seen : List κ} : Ent (RngH b r enc l seen :: R) (MapH b enc l :: R) := fun h x => by
  obtain ⟨⟨es, cl, js⟩, x2⟩ := has_hex.1 x
  obtain ⟨hm, x4⟩ := has_pure.1 (has_conj.1 x2)
  exact (Ent.trans (B := pts b (.map es.toArray cl) :: R) (fun _ y => Has.cons_of (fun _ z => z.tail) y) (MapH.close hm.m)) h x4
theorem SV.range {t kt et b : Nat} {x : Operand} {l : List (κ × Value)} (hx : f.ev x = .map (some b)) [ht : TU P t (.map kt et)] (c : Tk L (MapH b enc l) R)
    (h : ∀ r, K (.pointer (some ⟨r, 0, none⟩)) (RngH b r enc l [] :: R)) : SV P ro ⟨d, .range t x, ty, ps, af, gu⟩ f K L := by
  refine (SV.val (Instr.range t (f.ev x)) (by intro c h; cases h) rfl ?_)
  rw [hx]
  refine MapH.opens c fun es cl hm => ?_
  unfold Instr.range
  refine SW.bind (SW.underlying ht.h ?_)
  dsimp only
  refine SW.bind (SW.getObj Rd.here rfl ?_)
  dsimp only
  refine SW.bind (SW.pure ?_)
  refine SW.bind (SW.new fun r => ?_)
  refine SW.ent (Ent.trans (fun _ y => Has.swap y) (RngH.close (enc := enc) (l := l) (seen := []) (js := []) ⟨hm, List.nodup_nil, (fun _ z => nomatch z), rfl⟩)) (SW.pure (h r))
omit [DecidableEq κ] kk in
theorem born_inj {bs : List Nat} {cl : Nat} (h : bornOk bs cl) {i j : Nat} (hi : i < bs.length) (hj : j < bs.length) (e : bs[i] = bs[j]) : i = j := by
  have := List.pairwise_iff_getElem.1 h.1
  rcases Nat.lt_trichotomy i j with q | q | q
  · have := this i j hi hj q; omega
  · exact q
  · have := this j i hj hi q; omega
omit [DecidableEq κ] kk in
theorem mem_borns {es : List MapEntry} {cl : Nat} (hb : bornOk (es.map (·.born)) cl) {js : List Nat} (hj : ∀ j ∈ js, j < es.length) {i : Nat} (hi : i < es.length) : es[i].born ∈ (js.filterMap fun j => (es[j]?).map (·.born)) ↔ i ∈ js := by
  rw [List.mem_filterMap]
  constructor
  · rintro ⟨j, h1, h2⟩
    have hjl := hj j h1
    simp [hjl] at h2
    have := born_inj hb (i := j) (j := i) (by simpa using hjl) (by simpa using hi) (by simpa using h2)
    subst this; exact h1
  · intro h
    exact ⟨i, h, by simp [hi]⟩
theorem SV.next {b r : Nat} {x : Operand} {l : List (κ × Value)} {seen : List κ} (hx : f.ev x = .pointer (some ⟨r, 0, none⟩)) (c : Tk L (RngH b r enc l seen) R)
    (h0 : (∀ k ∈ l.map (·.1), k ∈ seen) → K (.tuple #[.bool false]) (RngH b r enc l seen :: R))
    (h1 : ∀ k v, (k, v) ∈ l → k ∉ seen → K (.tuple #[.bool true, enc k, v]) (RngH b r enc l (seen ++ [k]) :: R)) : SV P ro ⟨d, .next x false, ty, ps, af, gu⟩ f K L := by
  refine (SV.val (Instr.next (f.ev x) false ty) (by intro c h; cases h) rfl ?_)
  rw [hx]
  refine RngH.opens c fun es cl js hm => ?_
  have hlen : es.length = l.length := by have := congrArg List.length hm.m.e; simpa using this
  have hget : ∀ i (hi : i < es.length), (es[i].key, es[i].val) = (enc (l[i]'(hlen ▸ hi)).1, (l[i]'(hlen ▸ hi)).2) := fun i hi => by
    have e := hm.m.e
    unfold mapE at e
    have h2 : (es.map (fun e => (e.key, e.val)))[i]? = (l.map (fun p => (enc p.1, p.2)))[i]? := by rw [e]
    rw [List.getElem?_map, List.getElem?_map, List.getElem?_eq_getElem hi, List.getElem?_eq_getElem (hlen ▸ hi)] at h2
    simpa using h2
  have hseen : ∀ i (hi : i < es.length), (l[i]'(hlen ▸ hi)).1 ∈ seen ↔ i ∈ js := fun i hi => by
    rw [hm.s, List.mem_filterMap]
    constructor
    · rintro ⟨j, q1, q2⟩
      have hjl := hm.b j q1
      rw [List.getElem?_eq_getElem (hlen ▸ hjl)] at q2
      simp at q2
      have hn := hm.m.n
      have hpw := List.pairwise_iff_getElem.1 (List.nodup_iff_pairwise_ne.1 hn)
      have hji : j = i := by
        rcases Nat.lt_trichotomy j i with z | z | z
        · exact absurd (by rw [List.getElem_map, List.getElem_map]; exact q2) (hpw j i (by simpa [← hlen] using hjl) (by simpa [← hlen] using hi) z)
        · exact z
        · exact absurd (by rw [List.getElem_map, List.getElem_map]; exact q2.symm) (hpw i j (by simpa [← hlen] using hi) (by simpa [← hlen] using hjl) z)
      subst hji; exact q1
    · intro q
      exact ⟨i, q, by rw [List.getElem?_eq_getElem (hlen ▸ hi)]; rfl⟩
  unfold Instr.next
  refine SW.bind (SW.getObj (Rd.there (r := Rd.here)) rfl ?_)
  dsimp only
  refine SW.bind (SW.getObj Rd.here rfl ?_)
  dsimp only
  have hall : (!(js.filterMap fun j => (es[j]?).map (·.born)).toArray.isEmpty && !es.toArray.isEmpty && es.toArray.all (fun e => decide (e.born ≥ cl))) = false := by
    cases hes : es with
    | nil => simp
    | cons e0 es0 =>
      have : e0.born < cl := hm.m.b.2 _ (by rw [hes]; simp)
      simp [show ¬ cl ≤ e0.born by omega]
  rw [hall]
  have hold : (es.toArray.filter fun e => !((js.filterMap fun j => (es[j]?).map (·.born)).toArray.contains e.born)).filter (fun e => decide (e.born < cl)) = (es.toArray.filter fun e => !((js.filterMap fun j => (es[j]?).map (·.born)).toArray.contains e.born)) := by
    rw [Array.filter_eq_self]
    intro e he
    have : e ∈ es := by have := (Array.mem_filter.1 he).1; simpa using this
    exact decide_eq_true (hm.m.b.2 _ (List.mem_map_of_mem this))
  have hnew : (es.toArray.filter fun e => !((js.filterMap fun j => (es[j]?).map (·.born)).toArray.contains e.born)).filter (fun e => decide (e.born ≥ cl)) = #[] := by
    rw [Array.filter_eq_empty_iff]
    intro e he
    have : e ∈ es := by have := (Array.mem_filter.1 he).1; simpa using this
    have := hm.m.b.2 _ (List.mem_map_of_mem (f := (·.born)) this)
    simp; omega
  rw [hold, hnew, Array.append_empty]
  generalize hleft : (es.toArray.filter fun e => !((js.filterMap fun j => (es[j]?).map (·.born)).toArray.contains e.born)) = left
  have hmem : ∀ e, e ∈ left ↔ ∃ i, ∃ hi : i < es.length, i ∉ js ∧ es[i] = e := by
    intro e
    rw [← hleft, Array.mem_filter]
    constructor
    · rintro ⟨q1, q2⟩
      obtain ⟨i, hi, rfl⟩ := List.getElem_of_mem (show e ∈ es by simpa using q1)
      refine ⟨i, hi, fun z => ?_, rfl⟩
      have := (mem_borns hm.m.b hm.b hi).2 z
      simp only [Bool.not_eq_true'] at q2
      rw [List.contains_toArray] at q2
      simp only [List.contains_eq_mem, decide_eq_false_iff_not] at q2
      exact q2 this
    · rintro ⟨i, hi, q1, rfl⟩
      refine ⟨by simp, ?_⟩
      rw [List.contains_toArray]
      simp only [List.contains_eq_mem, Bool.not_eq_true', decide_eq_false_iff_not]
      exact fun z => q1 ((mem_borns hm.m.b hm.b hi).1 z)
  refine SW.bind (SW.choose fun t => ?_)
  by_cases hem : left.isEmpty = true
  · have hl0 : left = #[] := by simpa using hem
    subst hl0
    have hc : ((if (#[] : Array MapEntry).isEmpty = true then #[none] else (#[] : Array (Option MapEntry))) ++ Array.map some (#[] : Array MapEntry)) = #[none] := by simp
    rw [hc]
    have hz : (if (Question.mapNext (#[none] : Array (Option MapEntry)).size).forced = true then 0 else (Question.mapNext (#[none] : Array (Option MapEntry)).size).cut t) = 0 := by simp [Question.forced]
    rw [hz]
    show SW P (Pure.pure (Value.tuple #[.bool false])) K _
    refine SW.ent (RngH.close hm) (SW.pure (h0 fun k hk => ?_))
    obtain ⟨i, hi, rfl⟩ := List.getElem_of_mem hk
    have hi2 : i < es.length := by rw [hlen]; simpa using hi
    have : i ∈ js := Classical.byContradiction fun z => by
      have := (hmem es[i]).2 ⟨i, hi2, z, rfl⟩
      simp at this
    rw [List.getElem_map]
    exact (hseen i hi2).2 this
  · have hc : ((if left.isEmpty = true then #[none] else (#[] : Array (Option MapEntry))) ++ Array.map some left) = Array.map some left := by rw [if_neg hem]; simp
    rw [hc]
    have hsz : 0 < left.size := by
      rcases Nat.eq_zero_or_pos left.size with z | z
      · exact absurd (by simpa using z) hem
      · exact z
    have hlt : (if (Question.mapNext (Array.map some left).size).forced = true then 0 else (Question.mapNext (Array.map some left).size).cut t) < left.size := by
      split
      · exact hsz
      · simp only [Array.size_map, Question.cut]; exact Nat.mod_lt _ hsz
    generalize (if (Question.mapNext (Array.map some left).size).forced = true then 0 else (Question.mapNext (Array.map some left).size).cut t) = c at *
    have hg : (Array.map some left)[c]? = some (some left[c]) := by simp [hlt]
    rw [hg]
    dsimp only
    obtain ⟨i, hi, hn, he⟩ := (hmem left[c]).1 (by simp)
    have hil : i < l.length := hlen ▸ hi
    have hkv := hget i hi
    simp only [Prod.mk.injEq] at hkv
    rw [← he]
    refine SW.bind (SW.setObjE (Wr.there (r := Wr.here)) rfl (N := pts b (.map es.toArray cl) :: pts r (.mapIter (some b) cl ((js ++ [i]).filterMap fun j => (es[j]?).map (·.born)).toArray cl) :: R) ?_ ?_)
    · rw [List.filterMap_append]
      have : [i].filterMap (fun j => (es[j]?).map (·.born)) = [es[i].born] := by simp [hi]
      rw [this]
      rw [show ((js.filterMap fun j => (es[j]?).map (·.born)) ++ [es[i].born]).toArray = (js.filterMap fun j => (es[j]?).map (·.born)).toArray.push es[i].born by simp]
      exact Ent.refl _
    · have hs2 : seen ++ [l[i].1] = (js ++ [i]).filterMap (fun j => (l[j]?).map (·.1)) := by
        rw [List.filterMap_append, ← hm.s]
        congr 1
        simp [List.getElem?_eq_getElem hil]
      refine SW.ent (RngH.close (seen := seen ++ [l[i].1]) (js := js ++ [i]) ⟨hm.m, ?_, ?_, hs2⟩) (SW.pure ?_)
      · rw [List.nodup_append]
        refine ⟨hm.d, by simp, fun a ha b hb => ?_⟩
        rw [List.mem_singleton.1 hb]
        rintro rfl; exact hn ha
      · intro j hj
        rcases List.mem_append.1 hj with z | z
        · exact hm.b j z
        · rw [List.mem_singleton.1 z]; exact hi
      · rw [hkv.1, hkv.2]
        exact h1 l[i].1 l[i].2 (List.getElem_mem hil) fun z => hn ((hseen i hi).1 z)
end
end Go.SL
