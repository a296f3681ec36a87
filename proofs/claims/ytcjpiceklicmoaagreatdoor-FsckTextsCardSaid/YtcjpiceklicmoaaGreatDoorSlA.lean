/- SL 10: what is built; copy; closing of results. Generic in the program. -/
import Derived.Test.YtcjpiceklicmoaaGreatDoorSl9
namespace Go.SL
set_option linter.unusedVariables false
set_option linter.unusedSimpArgs false

section
variable {P : Program} {ro : Option Nat} {f : Frm} {L : List HP} {d : Option Nat} {ty : TypeId} {ps : String} {af : Array Edge} {gu : Option (Nat × Bool)} {K : Value → List HP → Prop}

/-- The places of a struct's fields. -/
def bPlaces (P : Program) (t : TypeId) : Option (List (Nat × Nat)) :=
  match P.underlying t with
  | some (.struct fs) => fs.toList.mapM fun fd => (tySize P fd.type).map fun n => (fd.offset, n)
  | _ => none
theorem run_places {P : Program} {w : World} : ∀ {fs : List Field} {pl : List (Nat × Nat)}, (fs.mapM fun fd => (tySize P fd.type).map fun n => (fd.offset, n)) = some pl →
    (fs.mapM (m := Sem) fun fd => do Pure.pure (fd.offset, ← sizeOf fd.type)).run P w = .ok pl w
  | [], pl, h => by simp at h; subst h; simp
  | fd :: fs, pl, h => by
    rw [List.mapM_cons] at h
    cases hn : tySize P fd.type with
    | none => simp [hn] at h
    | some n =>
      cases hr : (fs.mapM fun fd => (tySize P fd.type).map fun n => (fd.offset, n)) with
      | none => simp [hn, hr] at h
      | some pl' =>
        simp [hn, hr] at h; subst h
        have ih := run_places (w := w) hr
        have h1 : (sizeOf fd.type).run P w = .ok n w := by
          unfold tySize at hn
          cases hi : P.info? fd.type with
          | none => simp [hi] at hn
          | some i => simp [hi] at hn; simp [sizeOf, typeInfo, Go.program, Sem.run, hi, hn]
        rw [List.mapM_cons, Sem.run_bind, Sem.run_bind, h1, Result.andThen_ok, Sem.run_pure, Result.andThen_ok, Sem.run_bind, ih, Result.andThen_ok, Sem.run_pure]
class TP (P : Program) (t : Nat) (pl : outParam (List (Nat × Nat))) : Prop where h : bPlaces P t = some pl
/-- What is laid into a struct, part by part: places, cells. -/
inductive Parts (f : Frm) : List (Nat × Operand) → List (Nat × Value × List Value) → Prop
  | nil : Parts f [] []
  | cons {i : Nat} {x : Operand} {l : List (Nat × Operand)} {v : Value} {cs : List Value} {r : List (Nat × Value × List Value)} (h : f.ev x = v) (hc : Cel v cs) (t : Parts f l r) : Parts f ((i, x) :: l) ((i, v, cs) :: r)
theorem parts0 {f : Frm} {l : List (Nat × Operand)} {r : List (Nat × Value × List Value)} (h : Parts f l r := by first | exact Parts.nil) : Parts f l r := h
theorem parts1 {f : Frm} {l : List (Nat × Operand)} {r : List (Nat × Value × List Value)} (h : Parts f l r := by first | exact Parts.nil | exact Parts.cons (v := .int _ _) rfl cel parts0 | exact Parts.cons (v := .slice _ _ _) rfl cel parts0 | exact Parts.cons (v := .pointer _) rfl cel parts0 | exact Parts.cons (v := .string _) rfl cel parts0 | exact Parts.cons (v := .bool _) rfl cel parts0 | exact Parts.cons (v := .agg (List.toArray _)) rfl cel parts0 | exact Parts.cons (v := .map _) rfl cel parts0 | exact Parts.cons rfl cel parts0) : Parts f l r := h
theorem parts2 {f : Frm} {l : List (Nat × Operand)} {r : List (Nat × Value × List Value)} (h : Parts f l r := by first | exact Parts.nil | exact Parts.cons (v := .int _ _) rfl cel parts1 | exact Parts.cons (v := .slice _ _ _) rfl cel parts1 | exact Parts.cons (v := .pointer _) rfl cel parts1 | exact Parts.cons (v := .string _) rfl cel parts1 | exact Parts.cons (v := .bool _) rfl cel parts1 | exact Parts.cons (v := .agg (List.toArray _)) rfl cel parts1 | exact Parts.cons (v := .map _) rfl cel parts1 | exact Parts.cons rfl cel parts1) : Parts f l r := h
theorem parts3 {f : Frm} {l : List (Nat × Operand)} {r : List (Nat × Value × List Value)} (h : Parts f l r := by first | exact Parts.nil | exact Parts.cons (v := .int _ _) rfl cel parts2 | exact Parts.cons (v := .slice _ _ _) rfl cel parts2 | exact Parts.cons (v := .pointer _) rfl cel parts2 | exact Parts.cons (v := .string _) rfl cel parts2 | exact Parts.cons (v := .bool _) rfl cel parts2 | exact Parts.cons (v := .agg (List.toArray _)) rfl cel parts2 | exact Parts.cons (v := .map _) rfl cel parts2 | exact Parts.cons rfl cel parts2) : Parts f l r := h
theorem parts4 {f : Frm} {l : List (Nat × Operand)} {r : List (Nat × Value × List Value)} (h : Parts f l r := by first | exact Parts.nil | exact Parts.cons (v := .int _ _) rfl cel parts3 | exact Parts.cons (v := .slice _ _ _) rfl cel parts3 | exact Parts.cons (v := .pointer _) rfl cel parts3 | exact Parts.cons (v := .string _) rfl cel parts3 | exact Parts.cons (v := .bool _) rfl cel parts3 | exact Parts.cons (v := .agg (List.toArray _)) rfl cel parts3 | exact Parts.cons (v := .map _) rfl cel parts3 | exact Parts.cons rfl cel parts3) : Parts f l r := h
theorem parts5 {f : Frm} {l : List (Nat × Operand)} {r : List (Nat × Value × List Value)} (h : Parts f l r := by first | exact Parts.nil | exact Parts.cons (v := .int _ _) rfl cel parts4 | exact Parts.cons (v := .slice _ _ _) rfl cel parts4 | exact Parts.cons (v := .pointer _) rfl cel parts4 | exact Parts.cons (v := .string _) rfl cel parts4 | exact Parts.cons (v := .bool _) rfl cel parts4 | exact Parts.cons (v := .agg (List.toArray _)) rfl cel parts4 | exact Parts.cons (v := .map _) rfl cel parts4 | exact Parts.cons rfl cel parts4) : Parts f l r := h
theorem parts6 {f : Frm} {l : List (Nat × Operand)} {r : List (Nat × Value × List Value)} (h : Parts f l r := by first | exact Parts.nil | exact Parts.cons (v := .int _ _) rfl cel parts5 | exact Parts.cons (v := .slice _ _ _) rfl cel parts5 | exact Parts.cons (v := .pointer _) rfl cel parts5 | exact Parts.cons (v := .string _) rfl cel parts5 | exact Parts.cons (v := .bool _) rfl cel parts5 | exact Parts.cons (v := .agg (List.toArray _)) rfl cel parts5 | exact Parts.cons (v := .map _) rfl cel parts5 | exact Parts.cons rfl cel parts5) : Parts f l r := h
theorem parts7 {f : Frm} {l : List (Nat × Operand)} {r : List (Nat × Value × List Value)} (h : Parts f l r := by first | exact Parts.nil | exact Parts.cons (v := .int _ _) rfl cel parts6 | exact Parts.cons (v := .slice _ _ _) rfl cel parts6 | exact Parts.cons (v := .pointer _) rfl cel parts6 | exact Parts.cons (v := .string _) rfl cel parts6 | exact Parts.cons (v := .bool _) rfl cel parts6 | exact Parts.cons (v := .agg (List.toArray _)) rfl cel parts6 | exact Parts.cons (v := .map _) rfl cel parts6 | exact Parts.cons rfl cel parts6) : Parts f l r := h
theorem parts8 {f : Frm} {l : List (Nat × Operand)} {r : List (Nat × Value × List Value)} (h : Parts f l r := by first | exact Parts.nil | exact Parts.cons (v := .int _ _) rfl cel parts7 | exact Parts.cons (v := .slice _ _ _) rfl cel parts7 | exact Parts.cons (v := .pointer _) rfl cel parts7 | exact Parts.cons (v := .string _) rfl cel parts7 | exact Parts.cons (v := .bool _) rfl cel parts7 | exact Parts.cons (v := .agg (List.toArray _)) rfl cel parts7 | exact Parts.cons (v := .map _) rfl cel parts7 | exact Parts.cons rfl cel parts7) : Parts f l r := h
theorem parts9 {f : Frm} {l : List (Nat × Operand)} {r : List (Nat × Value × List Value)} (h : Parts f l r := by first | exact Parts.nil | exact Parts.cons (v := .int _ _) rfl cel parts8 | exact Parts.cons (v := .slice _ _ _) rfl cel parts8 | exact Parts.cons (v := .pointer _) rfl cel parts8 | exact Parts.cons (v := .string _) rfl cel parts8 | exact Parts.cons (v := .bool _) rfl cel parts8 | exact Parts.cons (v := .agg (List.toArray _)) rfl cel parts8 | exact Parts.cons (v := .map _) rfl cel parts8 | exact Parts.cons rfl cel parts8) : Parts f l r := h
theorem parts10 {f : Frm} {l : List (Nat × Operand)} {r : List (Nat × Value × List Value)} (h : Parts f l r := by first | exact Parts.nil | exact Parts.cons (v := .int _ _) rfl cel parts9 | exact Parts.cons (v := .slice _ _ _) rfl cel parts9 | exact Parts.cons (v := .pointer _) rfl cel parts9 | exact Parts.cons (v := .string _) rfl cel parts9 | exact Parts.cons (v := .bool _) rfl cel parts9 | exact Parts.cons (v := .agg (List.toArray _)) rfl cel parts9 | exact Parts.cons (v := .map _) rfl cel parts9 | exact Parts.cons rfl cel parts9) : Parts f l r := h
theorem parts11 {f : Frm} {l : List (Nat × Operand)} {r : List (Nat × Value × List Value)} (h : Parts f l r := by first | exact Parts.nil | exact Parts.cons (v := .int _ _) rfl cel parts10 | exact Parts.cons (v := .slice _ _ _) rfl cel parts10 | exact Parts.cons (v := .pointer _) rfl cel parts10 | exact Parts.cons (v := .string _) rfl cel parts10 | exact Parts.cons (v := .bool _) rfl cel parts10 | exact Parts.cons (v := .agg (List.toArray _)) rfl cel parts10 | exact Parts.cons (v := .map _) rfl cel parts10 | exact Parts.cons rfl cel parts10) : Parts f l r := h
theorem parts12 {f : Frm} {l : List (Nat × Operand)} {r : List (Nat × Value × List Value)} (h : Parts f l r := by first | exact Parts.nil | exact Parts.cons (v := .int _ _) rfl cel parts11 | exact Parts.cons (v := .slice _ _ _) rfl cel parts11 | exact Parts.cons (v := .pointer _) rfl cel parts11 | exact Parts.cons (v := .string _) rfl cel parts11 | exact Parts.cons (v := .bool _) rfl cel parts11 | exact Parts.cons (v := .agg (List.toArray _)) rfl cel parts11 | exact Parts.cons (v := .map _) rfl cel parts11 | exact Parts.cons rfl cel parts11) : Parts f l r := h
theorem parts13 {f : Frm} {l : List (Nat × Operand)} {r : List (Nat × Value × List Value)} (h : Parts f l r := by first | exact Parts.nil | exact Parts.cons (v := .int _ _) rfl cel parts12 | exact Parts.cons (v := .slice _ _ _) rfl cel parts12 | exact Parts.cons (v := .pointer _) rfl cel parts12 | exact Parts.cons (v := .string _) rfl cel parts12 | exact Parts.cons (v := .bool _) rfl cel parts12 | exact Parts.cons (v := .agg (List.toArray _)) rfl cel parts12 | exact Parts.cons (v := .map _) rfl cel parts12 | exact Parts.cons rfl cel parts12) : Parts f l r := h
theorem parts14 {f : Frm} {l : List (Nat × Operand)} {r : List (Nat × Value × List Value)} (h : Parts f l r := by first | exact Parts.nil | exact Parts.cons (v := .int _ _) rfl cel parts13 | exact Parts.cons (v := .slice _ _ _) rfl cel parts13 | exact Parts.cons (v := .pointer _) rfl cel parts13 | exact Parts.cons (v := .string _) rfl cel parts13 | exact Parts.cons (v := .bool _) rfl cel parts13 | exact Parts.cons (v := .agg (List.toArray _)) rfl cel parts13 | exact Parts.cons (v := .map _) rfl cel parts13 | exact Parts.cons rfl cel parts13) : Parts f l r := h
theorem parts15 {f : Frm} {l : List (Nat × Operand)} {r : List (Nat × Value × List Value)} (h : Parts f l r := by first | exact Parts.nil | exact Parts.cons (v := .int _ _) rfl cel parts14 | exact Parts.cons (v := .slice _ _ _) rfl cel parts14 | exact Parts.cons (v := .pointer _) rfl cel parts14 | exact Parts.cons (v := .string _) rfl cel parts14 | exact Parts.cons (v := .bool _) rfl cel parts14 | exact Parts.cons (v := .agg (List.toArray _)) rfl cel parts14 | exact Parts.cons (v := .map _) rfl cel parts14 | exact Parts.cons rfl cel parts14) : Parts f l r := h
theorem parts16 {f : Frm} {l : List (Nat × Operand)} {r : List (Nat × Value × List Value)} (h : Parts f l r := by first | exact Parts.nil | exact Parts.cons (v := .int _ _) rfl cel parts15 | exact Parts.cons (v := .slice _ _ _) rfl cel parts15 | exact Parts.cons (v := .pointer _) rfl cel parts15 | exact Parts.cons (v := .string _) rfl cel parts15 | exact Parts.cons (v := .bool _) rfl cel parts15 | exact Parts.cons (v := .agg (List.toArray _)) rfl cel parts15 | exact Parts.cons (v := .map _) rfl cel parts15 | exact Parts.cons rfl cel parts15) : Parts f l r := h
theorem parts17 {f : Frm} {l : List (Nat × Operand)} {r : List (Nat × Value × List Value)} (h : Parts f l r := by first | exact Parts.nil | exact Parts.cons (v := .int _ _) rfl cel parts16 | exact Parts.cons (v := .slice _ _ _) rfl cel parts16 | exact Parts.cons (v := .pointer _) rfl cel parts16 | exact Parts.cons (v := .string _) rfl cel parts16 | exact Parts.cons (v := .bool _) rfl cel parts16 | exact Parts.cons (v := .agg (List.toArray _)) rfl cel parts16 | exact Parts.cons (v := .map _) rfl cel parts16 | exact Parts.cons rfl cel parts16) : Parts f l r := h
theorem parts18 {f : Frm} {l : List (Nat × Operand)} {r : List (Nat × Value × List Value)} (h : Parts f l r := by first | exact Parts.nil | exact Parts.cons (v := .int _ _) rfl cel parts17 | exact Parts.cons (v := .slice _ _ _) rfl cel parts17 | exact Parts.cons (v := .pointer _) rfl cel parts17 | exact Parts.cons (v := .string _) rfl cel parts17 | exact Parts.cons (v := .bool _) rfl cel parts17 | exact Parts.cons (v := .agg (List.toArray _)) rfl cel parts17 | exact Parts.cons (v := .map _) rfl cel parts17 | exact Parts.cons rfl cel parts17) : Parts f l r := h
theorem parts19 {f : Frm} {l : List (Nat × Operand)} {r : List (Nat × Value × List Value)} (h : Parts f l r := by first | exact Parts.nil | exact Parts.cons (v := .int _ _) rfl cel parts18 | exact Parts.cons (v := .slice _ _ _) rfl cel parts18 | exact Parts.cons (v := .pointer _) rfl cel parts18 | exact Parts.cons (v := .string _) rfl cel parts18 | exact Parts.cons (v := .bool _) rfl cel parts18 | exact Parts.cons (v := .agg (List.toArray _)) rfl cel parts18 | exact Parts.cons (v := .map _) rfl cel parts18 | exact Parts.cons rfl cel parts18) : Parts f l r := h
theorem parts20 {f : Frm} {l : List (Nat × Operand)} {r : List (Nat × Value × List Value)} (h : Parts f l r := by first | exact Parts.nil | exact Parts.cons (v := .int _ _) rfl cel parts19 | exact Parts.cons (v := .slice _ _ _) rfl cel parts19 | exact Parts.cons (v := .pointer _) rfl cel parts19 | exact Parts.cons (v := .string _) rfl cel parts19 | exact Parts.cons (v := .bool _) rfl cel parts19 | exact Parts.cons (v := .agg (List.toArray _)) rfl cel parts19 | exact Parts.cons (v := .map _) rfl cel parts19 | exact Parts.cons rfl cel parts19) : Parts f l r := h
theorem parts21 {f : Frm} {l : List (Nat × Operand)} {r : List (Nat × Value × List Value)} (h : Parts f l r := by first | exact Parts.nil | exact Parts.cons (v := .int _ _) rfl cel parts20 | exact Parts.cons (v := .slice _ _ _) rfl cel parts20 | exact Parts.cons (v := .pointer _) rfl cel parts20 | exact Parts.cons (v := .string _) rfl cel parts20 | exact Parts.cons (v := .bool _) rfl cel parts20 | exact Parts.cons (v := .agg (List.toArray _)) rfl cel parts20 | exact Parts.cons (v := .map _) rfl cel parts20 | exact Parts.cons rfl cel parts20) : Parts f l r := h
theorem parts22 {f : Frm} {l : List (Nat × Operand)} {r : List (Nat × Value × List Value)} (h : Parts f l r := by first | exact Parts.nil | exact Parts.cons (v := .int _ _) rfl cel parts21 | exact Parts.cons (v := .slice _ _ _) rfl cel parts21 | exact Parts.cons (v := .pointer _) rfl cel parts21 | exact Parts.cons (v := .string _) rfl cel parts21 | exact Parts.cons (v := .bool _) rfl cel parts21 | exact Parts.cons (v := .agg (List.toArray _)) rfl cel parts21 | exact Parts.cons (v := .map _) rfl cel parts21 | exact Parts.cons rfl cel parts21) : Parts f l r := h
theorem parts23 {f : Frm} {l : List (Nat × Operand)} {r : List (Nat × Value × List Value)} (h : Parts f l r := by first | exact Parts.nil | exact Parts.cons (v := .int _ _) rfl cel parts22 | exact Parts.cons (v := .slice _ _ _) rfl cel parts22 | exact Parts.cons (v := .pointer _) rfl cel parts22 | exact Parts.cons (v := .string _) rfl cel parts22 | exact Parts.cons (v := .bool _) rfl cel parts22 | exact Parts.cons (v := .agg (List.toArray _)) rfl cel parts22 | exact Parts.cons (v := .map _) rfl cel parts22 | exact Parts.cons rfl cel parts22) : Parts f l r := h
theorem parts {f : Frm} {l : List (Nat × Operand)} {r : List (Nat × Value × List Value)} (h : Parts f l r := by first | exact Parts.nil | exact Parts.cons (v := .int _ _) rfl cel parts23 | exact Parts.cons (v := .slice _ _ _) rfl cel parts23 | exact Parts.cons (v := .pointer _) rfl cel parts23 | exact Parts.cons (v := .string _) rfl cel parts23 | exact Parts.cons (v := .bool _) rfl cel parts23 | exact Parts.cons (v := .agg (List.toArray _)) rfl cel parts23 | exact Parts.cons (v := .map _) rfl cel parts23 | exact Parts.cons rfl cel parts23) : Parts f l r := h
/-- The cells of a struct with its parts. -/
def laid (pl : Nat → Option (Nat × Nat)) : List Value → List (Nat × Value × List Value) → Option (List Value)
  | z, [] => some z
  | z, (i, _, cs) :: r => match pl i with
    | none => none
    | some (off, n) => bif Nat.beq cs.length n && Nat.ble (off + n) z.length then laid pl (lput z off cs) r else none
theorem laid_fill {pl : Nat → Option (Nat × Nat)} {f : Frm} {l : List (Nat × Operand)} {r : List (Nat × Value × List Value)} (p : Parts f l r) : ∀ {z z' : List Value}, laid pl z r = some z' → Instr.fill pl z.toArray (l.map fun q => (q.1, f.ev q.2)) = some z'.toArray := by
  induction p with
  | nil => intro z z' h; simp [laid] at h; subst h; rfl
  | @cons i x l v cs r h hc t ih =>
    intro z z' hz
    simp only [laid] at hz
    cases hp : pl i with
    | none => simp [hp] at hz
    | some on =>
      obtain ⟨off, n⟩ := on
      simp only [hp] at hz
      cases hb : (Nat.beq cs.length n && Nat.ble (off + n) z.length) with
      | false => simp [hb] at hz
      | true =>
        simp only [hb, cond_true] at hz
        rw [Bool.and_eq_true] at hb
        have h1 : cs.length = n := Nat.eq_of_beq_eq_true hb.1
        have h2 : off + n ≤ z.length := Nat.le_of_ble_eq_true hb.2
        have hcs : (f.ev x).cells = cs.toArray := by rw [h]; exact hc
        simp only [List.map_cons, Instr.fill, hp, hcs]
        rw [if_neg (by simp [h1]; omega)]
        have e : (cs.toArray.zipIdx.foldl (fun cs x => match x with | (c, j) => cs.setIfInBounds (off + j) c) z.toArray) = (lput z off cs).toArray := by
          have key : ∀ (cs : List Value) (z : List Value) (k o : Nat), o + k + cs.length ≤ z.length → ((cs.zipIdx k).foldl (fun (a : Array Value) (x : Value × Nat) => a.setIfInBounds (o + x.2) x.1) z.toArray) = (lput z (o + k) cs).toArray := by
            intro cs
            induction cs with
            | nil => intro z k o _; simp [lput_nil]
            | cons c cs ih =>
              intro z k o hlen
              simp only [List.length_cons] at hlen
              rw [List.zipIdx_cons, List.foldl_cons]
              have e1 : z.toArray.setIfInBounds (o + k) c = (z.set (o + k) c).toArray := by simp
              simp only [e1]
              rw [ih _ _ _ (by simp; omega)]
              rw [← putAt_lput z (o + k) (c :: cs) (by simp; omega), putAt, e1, ← putAt_lput _ _ _ (by simp; omega)]
              rfl
          have := key cs z 0 off (by omega)
          simpa using this
        rw [e]
        exact ih hz
theorem SV.build {t : TypeId} {pa : List (Nat × Operand)} {z cs cs' : List Value} {pl : List (Nat × Nat)} {r : List (Nat × Value × List Value)} [hz : TZ P t z] [hp : TP P t pl] (p : Parts f pa r) (hf : laid (fun i => pl[i]?) z r = some cs) (hn : NL cs cs') (h : K (.agg cs'.toArray) L) :
    SV P ro ⟨d, .build t pa.toArray, ty, ps, af, gu⟩ f K L := by
  obtain ⟨zv, h1, h2⟩ := hz.ex
  have hv' : (pa.toArray.map fun (i, x) => (i, f.ev x)) = (pa.map fun q => (q.1, f.ev q.2)).toArray := by apply Array.toList_inj.1; simp
  refine SV.val (Instr.build t (pa.map fun q => (q.1, f.ev q.2)).toArray) (by intro c h; cases h) (by simp only [execOp, hv']) ?_
  have hp := hp.h
  unfold bPlaces at hp
  split at hp
  · rename_i fs hs
    unfold Instr.build
    refine SW.bind (SW.zeroValue h1 (SW.bind (SW.underlying hs ?_)))
    refine SW.bind (SW.runs (a := pl.toArray) (fun _ w _ => ?_) ?_)
    · have h1 : fs = fs.toList.toArray := by simp
      rw [h1, List.mapM_toArray, Sem.run_map, run_places hp]; rfl
    · have h2' : (fun i : Nat => pl.toArray[i]?) = fun i : Nat => pl[i]? := by funext i; simp
      have h3 := laid_fill p hf
      simp only [h2', h2, h3]
      rw [hn]
      exact SW.pure h
  · cases hp
theorem SV.buildArr {t l e n : TypeId} {pa : List (Nat × Operand)} {z cs cs' : List Value} {r : List (Nat × Value × List Value)} [hz : TZ P t z] [he : TR P t l e n] (p : Parts f pa r) (hf : laid (fun i => some (i * n, n)) z r = some cs) (hn : NL cs cs') (h : K (.agg cs'.toArray) L) :
    SV P ro ⟨d, .build t pa.toArray, ty, ps, af, gu⟩ f K L := by
  obtain ⟨zv, h1, h2⟩ := hz.ex
  obtain ⟨hs, hn'⟩ := arrOf_some he.h
  have hv' : (pa.toArray.map fun (i, x) => (i, f.ev x)) = (pa.map fun q => (q.1, f.ev q.2)).toArray := by apply Array.toList_inj.1; simp
  refine SV.val (Instr.build t (pa.map fun q => (q.1, f.ev q.2)).toArray) (by intro c h; cases h) (by simp only [execOp, hv']) ?_
  unfold Instr.build
  refine SW.bind (SW.zeroValue h1 (SW.bind (SW.underlying hs (SW.bind (SW.sizeOf hn' ?_)))))
  have h3 := laid_fill p hf
  simp only [h2, h3]
  rw [hn]
  exact SW.pure h
/-- A slice literal. -/
def reps (z : List Value) : Nat → List Value
  | 0 => []
  | n + 1 => z ++ reps z n
theorem reps_length (z : List Value) (n : Nat) : (reps z n).length = n * z.length := by
  induction n with
  | zero => simp [reps]
  | succ n ih => simp [reps, ih, Nat.add_mul]; omega
theorem reps_get (z : List Value) (n i : Nat) (h : i < n * z.length) : (reps z n)[i]? = z[i % z.length]? := by
  induction n generalizing i with
  | zero => simp at h
  | succ n ih =>
    rw [reps]
    by_cases hi : i < z.length
    · rw [List.getElem?_append_left hi, Nat.mod_eq_of_lt hi]
    · rw [List.getElem?_append_right (by omega), ih _ (by rw [Nat.add_mul] at h; omega)]
      congr 1
      exact (Nat.mod_eq_sub_mod (by omega)).symm
theorem SV.lit {t e sz n : Nat} {pa : List (Nat × Operand)} {z cs cs' : List Value} {r : List (Nat × Value × List Value)} [he : TE P t e sz] [hz : TZ P e z] (hzl : Nat.beq z.length sz = true) (hn : Nat.ble (n * sz) 16777216 = true) (h0 : Nat.beq (n * sz) 0 = false) (p : Parts f pa r)
    (hf : laid (fun i => some (i * sz, sz)) (reps z n) r = some cs) (hnl : NL cs cs') (h : ∀ b, K (.slice (some ⟨b, 0, none⟩) n n) (pts b (.cells cs'.toArray e) :: L)) : SV P ro ⟨d, .buildSlice t n pa.toArray, ty, ps, af, gu⟩ f K L := by
  obtain ⟨zv, h1, h2⟩ := hz.ex
  obtain ⟨hs, hn'⟩ := elemOf_some he.h
  have hzl := Nat.eq_of_beq_eq_true hzl
  have hn := Nat.le_of_ble_eq_true hn
  have h0 : n * sz ≠ 0 := by intro e; rw [e] at h0; cases h0
  have hv' : (pa.toArray.map fun (i, x) => (i, f.ev x)) = (pa.map fun q => (q.1, f.ev q.2)).toArray := by apply Array.toList_inj.1; simp
  refine SV.val (Instr.buildSlice t n (pa.map fun q => (q.1, f.ev q.2)).toArray) (by intro c h; cases h) (by simp only [execOp, hv']) ?_
  unfold Instr.buildSlice
  refine SW.bind (SW.underlying hs (SW.bind (SW.sizeOf hn' ?_)))
  rw [if_neg (by omega), if_neg h0]
  refine SW.bind (SW.zeroValue h1 (SW.bind (SW.pure ?_)))
  have e1 : (Array.range (n * sz)).map (fun i => zv.cells[i % zv.cells.size]!) = (reps z n).toArray := by
    rw [h2]
    apply Array.ext
    · simp [reps_length, hzl]
    · intro i hi1 hi2
      have hi : i < n * z.length := by simp [hzl] at hi1 ⊢; exact hi1
      have hm : i % z.length < z.length := Nat.mod_lt _ (by rcases Nat.eq_zero_or_pos z.length with g | g; (rw [g] at hi; simp at hi); exact g)
      have := reps_get z n i hi
      rw [List.getElem?_eq_getElem hm, List.getElem?_eq_getElem (by rw [reps_length]; exact hi)] at this
      simp [hm]
      simpa using this.symm
  have h3 := laid_fill p hf
  simp only [e1, h3]
  rw [hnl]
  exact SW.bind (SW.bind (SW.new fun b => SW.pure (SW.pure (h b))))

theorem run_lit {t e sz n : Nat} {pa : List (Nat × Operand)} {z cs cs' : List Value} {r : List (Nat × Value × List Value)} [he : TE P t e sz] [hz : TZ P e z] (hzl : Nat.beq z.length sz = true) (hn : Nat.ble (n * sz) 16777216 = true) (h0 : Nat.beq (n * sz) 0 = false) (p : Parts f pa r)
    (hf : laid (fun i => some (i * sz, sz)) (reps z n) r = some cs) (hnl : NL cs cs') (w : World) : ((⟨d, .buildSlice t n pa.toArray, ty, ps, af, gu⟩ : Oper).semAt ro f.ev).run P w = .ok (.value (.slice (some ⟨w.heap.size, 0, none⟩) n n)) (w.alloc (.cells cs'.toArray e)) := by
  obtain ⟨zv, h1, h2⟩ := hz.ex
  obtain ⟨hs, hn'⟩ := elemOf_some he.h
  have hzl := Nat.eq_of_beq_eq_true hzl
  have hn := Nat.le_of_ble_eq_true hn
  have h0 : n * sz ≠ 0 := by intro e; rw [e] at h0; cases h0
  have hv' : (pa.toArray.map fun (i, x) => (i, f.ev x)) = (pa.map fun q => (q.1, f.ev q.2)).toArray := by apply Array.toList_inj.1; simp
  rw [Oper.semAt_eq _ _ _ (by intro c h; cases h)]
  have r1 : (Go.underlying t).run P w = .ok (.slice e) w := by simp [Go.underlying, Go.program, Sem.run, hs]
  have r2 : (Go.sizeOf e).run P w = .ok sz w := by
    unfold tySize at hn'
    cases hi : P.info? e with
    | none => rw [hi] at hn'; cases hn'
    | some i => rw [hi] at hn'; injection hn' with hn'; subst hn'; simp [Go.sizeOf, Go.typeInfo, Go.program, Sem.run_bind, Sem.run, hi]
  have r3 : (Go.zeroValue e).run P w = .ok zv w := by
    cases hi : P.info? e with
    | none => simp [tyZero, hi] at h1
    | some i => simp [tyZero, hi] at h1; simp [Go.zeroValue, Go.typeInfo, Go.program, Sem.run, hi, h1]
  have e1 : (Array.range (n * sz)).map (fun i => zv.cells[i % zv.cells.size]!) = (reps z n).toArray := by
    rw [h2]
    apply Array.ext
    · simp [reps_length, hzl]
    · intro i hi1 hi2
      have hi : i < n * z.length := by simp [hzl] at hi1 ⊢; exact hi1
      have hm : i % z.length < z.length := Nat.mod_lt _ (by rcases Nat.eq_zero_or_pos z.length with g | g; (rw [g] at hi; simp at hi); exact g)
      have := reps_get z n i hi
      rw [List.getElem?_eq_getElem hm, List.getElem?_eq_getElem (by rw [reps_length]; exact hi)] at this
      simp [hm]
      simpa using this.symm
  have h3 := laid_fill p hf
  simp only [execOp, hv']
  unfold Instr.buildSlice
  simp only [Sem.run_bind, r1, r2, r3, Result.andThen_ok]
  rw [if_neg (by omega), if_neg h0]
  simp only [Sem.run_bind, r3, Result.andThen_ok, Sem.run_pure, e1, h3, newRow, newObj]
  rw [hnl]
  rfl

theorem DA.lit {all : Array Oper} {KK : Frm → List HP → Prop} {R : List Oper} {H : List HP} {t e sz n : Nat} {pa : List (Nat × Operand)} {z cs cs' : List Value} {r : List (Nat × Value × List Value)} [he : TE P t e sz] [hz : TZ P e z] (hzl : Nat.beq z.length sz = true) (hn : Nat.ble (n * sz) 16777216 = true) (h0 : Nat.beq (n * sz) 0 = false) (p : Parts f pa r)
    (hf : laid (fun i => some (i * sz, sz)) (reps z n) r = some cs) (hnl : NL cs cs') (hw : wF all f ⟨d, .buildSlice t n pa.toArray, ty, ps, af, gu⟩ = true)
    (k : ∀ b, DA P ro all KK R (f.putO d (.slice (some ⟨b, 0, none⟩) n n)) (pts b (.cells cs'.toArray e) :: H)) : DA P ro all KK (⟨d, .buildSlice t n pa.toArray, ty, ps, af, gu⟩ :: R) f H := by
  refine .inr ⟨hw, ?_⟩
  rw [if_neg (by simp [isQ]), if_pos (by simp [isA])]
  exact ⟨_, fun w => run_lit hzl hn h0 p hf hnl w, k⟩
theorem DB.lit {D : Nat → Bool} {bf : Array Nat} {i : Nat} {S : St} {all : Array Oper} {KK : Frm → List HP → Prop} {R : List Oper} {H : List HP} {t e sz n : Nat} {pa : List (Nat × Operand)} {z cs cs' : List Value} {r : List (Nat × Value × List Value)} [he : TE P t e sz] [hz : TZ P e z] (hzl : Nat.beq z.length sz = true) (hn : Nat.ble (n * sz) 16777216 = true) (h0 : Nat.beq (n * sz) 0 = false) (p : Parts f pa r)
    (hf : laid (fun i => some (i * sz, sz)) (reps z n) r = some cs) (hnl : NL cs cs') (hD : D i = true) (hw : wF all f ⟨d, .buildSlice t n pa.toArray, ty, ps, af, gu⟩ = true)
    (k : ∀ b, DB P ro D all KK bf (i + 1) (S ++ tag i [pts b (.cells cs'.toArray e)]) R (f.putO d (.slice (some ⟨b, 0, none⟩) n n)) H) : DB P ro D all KK bf i S (⟨d, .buildSlice t n pa.toArray, ty, ps, af, gu⟩ :: R) f H := by
  refine .inr ⟨hw, ?_⟩
  rw [if_neg (by simp [isQ]), if_pos (by simp [isA])]
  exact ⟨_, fun w => run_lit hzl hn h0 p hf hnl w, by simp only [isL, hD, Bool.and_true, cond_true]; exact k⟩

theorem DB.litH {D : Nat → Bool} {bf : Array Nat} {i : Nat} {S : St} {all : Array Oper} {KK : Frm → List HP → Prop} {R : List Oper} {H : List HP} {t e sz n : Nat} {pa : List (Nat × Operand)} {z cs cs' : List Value} {r : List (Nat × Value × List Value)} [he : TE P t e sz] [hz : TZ P e z] (hzl : Nat.beq z.length sz = true) (hn : Nat.ble (n * sz) 16777216 = true) (h0 : Nat.beq (n * sz) 0 = false) (p : Parts f pa r)
    (hf : laid (fun i => some (i * sz, sz)) (reps z n) r = some cs) (hnl : NL cs cs') (hD : D i = false) (hw : wF all f ⟨d, .buildSlice t n pa.toArray, ty, ps, af, gu⟩ = true)
    (k : ∀ b, DB P ro D all KK bf (i + 1) S R (f.putO d (.slice (some ⟨b, 0, none⟩) n n)) (pts b (.cells cs'.toArray e) :: H)) : DB P ro D all KK bf i S (⟨d, .buildSlice t n pa.toArray, ty, ps, af, gu⟩ :: R) f H := by
  refine .inr ⟨hw, ?_⟩
  rw [if_neg (by simp [isQ]), if_pos (by simp [isA])]
  exact ⟨_, fun w => run_lit hzl hn h0 p hf hnl w, by simp only [hD, Bool.and_false, cond_false]; exact k⟩

theorem run_mk {t e by_ m : Nat} {z : Value} [he : TE P t e 1] [hb : TB P e by_] [hz : TZ P e [z]] (h1 : by_ * m ≤ 2 ^ 48) (h2 : m < 2 ^ 63) (w : World) :
    ((⟨d, .makeSlice t (.const (.int .i64 (m : Int))) (.const (.int .i64 (m : Int))), ty, ps, af, gu⟩ : Oper).semAt ro f.ev).run P w = .ok (.value (.slice (some ⟨w.heap.size, 0, none⟩) m m)) (w.alloc (.cells (List.replicate m z).toArray e)) := by
  obtain ⟨zv, g1, g2⟩ := hz.ex
  obtain ⟨hs, hn'⟩ := elemOf_some he.h
  rw [Oper.semAt_eq _ _ _ (by intro c h; cases h)]
  have hw : IntKind.i64.wrap (m : Int) = (m : Int) := i64w (by omega) (by omega)
  have r1 : (Go.underlying t).run P w = .ok (.slice e) w := by simp [Go.underlying, Go.program, Sem.run, hs]
  have hib := hb.h
  unfold tyBytes at hib
  cases hi : P.info? e with
  | none => simp [hi] at hib
  | some i =>
    simp [hi] at hib; subst hib
    have r2 : (Go.sizeOf e).run P w = .ok 1 w := by
      unfold tySize at hn'
      rw [hi] at hn'; injection hn' with hn'
      simp [Go.sizeOf, Go.typeInfo, Go.program, Sem.run_bind, Sem.run, hi, hn']
    have r3 : (Go.typeInfo e).run P w = .ok i w := by simp [Go.typeInfo, Go.program, Sem.run, hi]
    have r4 : (Go.zeroValue e).run P w = .ok zv w := by
      simp [tyZero, hi] at g1; simp [Go.zeroValue, Go.typeInfo, Go.program, Sem.run, hi, g1]
    have r5 : ∀ n, (Go.askRoom n).run P w = .ok () w := by
      intro n; unfold Go.askRoom; split <;> simp [Go.mark, Sem.run]
    have c1 : ¬ (m : Int) < 0 := by omega
    have c2 : ¬ ((i.bytes : Int) * (m : Int) > 2 ^ 48) := by
      have : ((i.bytes * m : Nat) : Int) ≤ ((2 ^ 48 : Nat) : Int) := by exact_mod_cast h1
      simpa using this
    simp only [execOp, Frm.ev]
    unfold Instr.makeSlice
    simp only [Sem.run_bind, r1, Result.andThen_ok, asInt, asIntOf, Sem.run_pure, r3, hw, c1, c2, decide_false, Bool.or_false, gt_iff_lt, Int.lt_irrefl, Bool.false_eq_true, if_false, r5, r2, Nat.mul_one, Int.toNat_natCast]
    have e1 : (Array.range m).map (fun x => zv.cells[x % zv.cells.size]!) = (List.replicate m z).toArray := by
      rw [g2]
      apply Array.ext
      · simp
      · intro j h1 h2; simp [Nat.mod_one]
    by_cases h0 : m = 0
    · subst h0
      simp only [if_true, Sem.run_pure, Result.andThen_ok, Sem.run_bind, newRow, newObj]
      have e0 : ∀ g : Nat → Value, (Array.range 0).map g = #[] := fun g => by apply Array.ext <;> simp
      rw [e0]
      rfl
    · rw [if_neg h0]
      simp only [Sem.run_bind, r4, Sem.run_pure, Result.andThen_ok, e1, newRow, newObj]
      rfl
theorem DA.mk {all : Array Oper} {KK : Frm → List HP → Prop} {R : List Oper} {H : List HP} {t e by_ m : Nat} {z : Value} {n : Int} (hm : n = (m : Int)) [he : TE P t e 1] [hb : TB P e by_] [hz : TZ P e [z]] (h1 : by_ * m ≤ 2 ^ 48) (h2 : m < 2 ^ 63)
    (hw : wF all f ⟨d, .makeSlice t (.const (.int .i64 n)) (.const (.int .i64 n)), ty, ps, af, gu⟩ = true)
    (k : ∀ b, DA P ro all KK R (f.putO d (.slice (some ⟨b, 0, none⟩) m m)) (pts b (.cells (List.replicate m z).toArray e) :: H)) : DA P ro all KK (⟨d, .makeSlice t (.const (.int .i64 n)) (.const (.int .i64 n)), ty, ps, af, gu⟩ :: R) f H := by
  subst hm
  refine .inr ⟨hw, ?_⟩
  rw [if_neg (by simp [isQ]), if_pos (by simp [isA])]
  exact ⟨_, fun w => run_mk h1 h2 w, k⟩
theorem DB.mk {D : Nat → Bool} {bf : Array Nat} {i : Nat} {S : St} {all : Array Oper} {KK : Frm → List HP → Prop} {R : List Oper} {H : List HP} {t e by_ m : Nat} {z : Value} {n : Int} (hm : n = (m : Int)) [he : TE P t e 1] [hb : TB P e by_] [hz : TZ P e [z]] (h1 : by_ * m ≤ 2 ^ 48) (h2 : m < 2 ^ 63)
    (hD : D i = true) (hw : wF all f ⟨d, .makeSlice t (.const (.int .i64 n)) (.const (.int .i64 n)), ty, ps, af, gu⟩ = true)
    (k : ∀ b, DB P ro D all KK bf (i + 1) (S ++ tag i [pts b (.cells (List.replicate m z).toArray e)]) R (f.putO d (.slice (some ⟨b, 0, none⟩) m m)) H) : DB P ro D all KK bf i S (⟨d, .makeSlice t (.const (.int .i64 n)) (.const (.int .i64 n)), ty, ps, af, gu⟩ :: R) f H := by
  subst hm
  refine .inr ⟨hw, ?_⟩
  rw [if_neg (by simp [isQ]), if_pos (by simp [isA])]
  exact ⟨_, fun w => run_mk h1 h2 w, by simp only [isL, hD, Bool.and_true, cond_true]; exact k⟩

/-! ### copy -/
def SrcK (P : Program) (sz : Nat) (x : Value) (m : Nat) (ys : List Value) (L : List HP) : Prop :=
  (∀ w, (Builtin.lenOf x).run P w = .ok m w) ∧ ys.length = m * sz ∧ ∀ k, k ≤ m → ∀ Fr w, Has (L ++ Fr) (heapOf w) → (Builtin.firstCells sz k x).run P w = .ok (ys.take (k * sz)).toArray w
theorem cellsAt_take (cs : Array Value) (off n k : Nat) (h : k ≤ n) : (cellsAt cs off n).take k = cellsAt cs off k := by
  induction k generalizing off n with
  | zero => rfl
  | succ k ih =>
    cases n with
    | zero => omega
    | succ n => simp only [cellsAt, List.take_succ_cons]; rw [ih _ _ (by omega)]
theorem SrcK.nil {sz : Nat} : SrcK P sz (.slice none 0 0) 0 [] L := by
  refine ⟨fun _ => rfl, by simp, fun k hk _ _ _ => ?_⟩
  have : k = 0 := by omega
  subst this; simp [Builtin.firstCells]
theorem SrcK.row {sz b off m cap : Nat} {l : List Value} {T : TypeId} {fr : Nat × Nat} [r : Rd L b (.cells l.toArray T fr)] (h : off + m * sz ≤ l.length) : SrcK P sz (.slice (some ⟨b, off, none⟩) m cap) m (lsub l off (m * sz)) L := by
  rw [← cellsAt_lsub l off (m * sz) h]
  refine ⟨fun _ => rfl, cellsAt_length _ _ _, fun k hk Fr w x => ?_⟩
  have h1 : k * sz ≤ m * sz := Nat.mul_le_mul_right _ hk
  simp only [Builtin.firstCells]
  rw [run_loadCells (r.append x) (by simp; omega), cellsAt_take _ _ _ _ h1]
theorem SrcK.str {s : List UInt8} : SrcK P 1 (.string ⟨s.toArray⟩) s.length (s.map u8V) L := by
  refine ⟨fun _ => rfl, by simp, fun k hk _ w _ => ?_⟩
  have e : ((⟨s.toArray⟩ : ByteArray).extract 0 k) = ⟨(s.take k).toArray⟩ := by rw [extract_str]; simp
  simp only [Builtin.firstCells, e, Sem.run_pure]
  congr 1
  apply Array.toList_inj.1
  simp [List.map_take]; rfl
theorem SW.copy {tS tX e sz : Nat} {ts : Array TypeId} {x : Value} {b off n cap m : Nat} {cs : Array Value} {ys : List Value} {T : TypeId} {fr : Nat × Nat} {M : Obj → List HP} (h0 : ts[0]? = some tS) (he : elemOf P tS = some (e, sz)) (src : SrcK P sz x m ys L) (hc : ys.all isCell = true)
    (r : Wr L b (.cells cs T fr) M) (rm : WrM M b) (hn : off + n * sz ≤ cs.size) (hf : fr.2 ≤ fr.1 ∨ off + n * sz ≤ fr.1) (h1 : (ys.take ((min m n) * sz)) ≠ [] → K (.int .i64 (min m n : Nat)) (M (.cells (putAt cs off (ys.take ((min m n) * sz))) T fr)))
    (h2 : (ys.take ((min m n) * sz)) = [] → K (.int .i64 (min m n : Nat)) L) : SW P (Builtin.copy_ ts ty #[.slice (some ⟨b, off, none⟩) n cap, x]) K L := by
  obtain ⟨hs, hn'⟩ := elemOf_some he
  unfold Builtin.copy_
  simp only [h0, show (#[Value.slice (some ⟨b, off, none⟩) n cap, x] : Array Value)[0]? = some (.slice (some ⟨b, off, none⟩) n cap) from rfl, show (#[Value.slice (some ⟨b, off, none⟩) n cap, x] : Array Value)[1]? = some x from rfl]
  refine SW.bind (SW.underlying hs ?_)
  refine SW.bind (SW.runs (fun _ w _ => src.1 w) ?_)
  have hmin : Nat.min m n = min m n := rfl
  rw [hmin]
  refine SW.bind (SW.sizeOf hn' (SW.bind (SW.runs (src.2.2 _ (Nat.min_le_left _ _)) ?_)))
  have hle : min m n * sz ≤ n * sz := Nat.mul_le_mul_right _ (Nat.min_le_right _ _)
  have hlen : (ys.take (min m n * sz)).length ≤ min m n * sz := by rw [List.length_take]; omega
  refine SW.bind (SW.storeCells _ 0 cs ?_ r rm.w ?_ ?_ (fun g => SW.pure ?_) (fun g => SW.pure (h2 g)))
  · rcases hf with g | g
    · exact .inl g
    · right; simp only [Nat.add_zero]; have := hlen; omega
  · rw [List.all_eq_true] at hc ⊢
    intro y hy; exact hc y (List.mem_of_mem_take hy)
  · have := hlen; simp only [Nat.add_zero]; omega
  · simpa [goInt] using h1 g
theorem SV.copy {tS tX e sz : Nat} {x y : Operand} {v : Value} {b off n cap m : Nat} {l ys : List Value} {T : TypeId} {fr : Nat × Nat} {M : Obj → List HP} (hx : f.ev x = .slice (some ⟨b, off, none⟩) n cap) (hy : f.ev y = v) [he : TE P tS e sz] (src : SrcK P sz v m ys L) (hc : ys.all isCell = true)
    [r : Wr L b (.cells l.toArray T fr) M] [rm : WrM M b] (hn : off + n * sz ≤ l.length) (hf : fr.2 ≤ fr.1 ∨ off + n * sz ≤ fr.1) (h1 : K (.int .i64 (min m n : Nat)) (M (.cells (lput l off (ys.take ((min m n) * sz))).toArray T fr)))
    (h2 : (ys.take ((min m n) * sz)) = [] → K (.int .i64 (min m n : Nat)) L) : SV P ro ⟨d, .call { callee := .builtin .copy, args := #[x, y], argTypes := #[tS, tX] }, ty, ps, af, gu⟩ f K L := by
  refine SV.bi (vs := [.slice (some ⟨b, off, none⟩) n cap, v]) (s := Builtin.copy_ #[tS, tX] ty #[.slice (some ⟨b, off, none⟩) n cap, v]) (by simp [hx, hy]) (fun _ => rfl) ?_
  refine SW.copy (tX := tX) rfl he.h src hc r rm (by simpa using hn) hf (fun _ => ?_) h2
  have hle : min m n * sz ≤ n * sz := Nat.mul_le_mul_right _ (Nat.min_le_right _ _)
  rw [putAt_lput l off _ (by rw [List.length_take]; omega)]; exact h1
end

/-! ### Results in memory -/
theorem Res.tmp {P : Program} {f : Frm} {L : List HP} {t : Nat} {v : Value} (h : f.v t = v) : Res P f L (.tmp t) v := h
theorem Res.cell {P : Program} {f : Frm} {L : List HP} {a t b off n : Nat} {l : List Value} {T : TypeId} {fr : Nat × Nat} {vs : List Value} (h : f.v a = .pointer (some ⟨b, off, none⟩)) [ht' : TA P t true] [hs' : TS P t n] [r : Rd L b (.cells l.toArray T fr)] (hn' : off + n ≤ l.length)
    (hv : NL (lsub l off n) vs) : Res P f L (.cell a t) (.agg vs.toArray) := by
  rw [NL, ← cellsAt_lsub l off n hn'] at hv
  subst hv
  have ht := ht'.h
  have hs := hs'.h
  have hn : off + n ≤ l.toArray.size := by simpa using hn'
  refine ⟨b, off, h, fun Fr w x => ?_⟩
  have hagg : (isAgg t).run P w = .ok true w := by
    unfold tyAgg at ht
    cases hd : P.underlying t with
    | none => simp [hd] at ht
    | some d => simp only [hd, Option.map_some, Option.some.injEq] at ht; simp only [isAgg, underlying, Go.program, Sem.run_bind]; simp [Sem.run, hd]; cases d <;> simp at ht <;> simp
  have hsz : (sizeOf t).run P w = .ok n w := by
    unfold tySize at hs
    cases hi : P.info? t with
    | none => simp [hi] at hs
    | some i => simp [hi] at hs; simp [sizeOf, typeInfo, Go.program, Sem.run, hi, hs]
  simp only [loadVar, Sem.run_bind, hagg, Result.andThen_ok, if_true, hsz, run_loadCells (r.append x) hn, Sem.run_pure]
theorem Res.cell1 {P : Program} {f : Frm} {L : List HP} {a t b off : Nat} {l : List Value} {T : TypeId} {fr : Nat × Nat} {v : Value} (h : f.v a = .pointer (some ⟨b, off, none⟩)) [ht' : TA P t false] [r : Rd L b (.cells l.toArray T fr)] (hv' : lget l off = some v) : Res P f L (.cell a t) v := by
  have ht := ht'.h
  have hv : l.toArray[off]? = some v := by rw [lget_eq] at hv'; simpa using hv'
  refine ⟨b, off, h, fun Fr w x => ?_⟩
  have hagg : (isAgg t).run P w = .ok false w := by
    unfold tyAgg at ht
    cases hd : P.underlying t with
    | none => simp [hd] at ht
    | some d => simp only [hd, Option.map_some, Option.some.injEq] at ht; simp only [isAgg, underlying, Go.program, Sem.run_bind]; simp [Sem.run, hd]; cases d <;> simp at ht <;> simp
  simp only [loadVar, Sem.run_bind, hagg, Result.andThen_ok, Bool.false_eq_true, if_false, run_load, cell_of (r.append x), hv]
end Go.SL
