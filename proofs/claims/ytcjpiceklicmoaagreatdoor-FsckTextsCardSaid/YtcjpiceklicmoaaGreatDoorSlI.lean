/- Bytes made of a constant string: the row is marked as one. -/
import Derived.Test.YtcjpiceklicmoaaGreatDoorSlG
namespace Go.SL
set_option linter.unusedVariables false
set_option linter.unusedSimpArgs false
set_option maxRecDepth 10000

theorem SW.freeze1 {P : Program} {L : List HP} {b off : Nat} {cs : Array Value} {T : TypeId} {M : Obj → List HP} {K : Unit → List HP → Prop} (r : Wr L b (.cells cs T (0, 0)) M) (h : K () (M (.cells cs T (off, off + 1)))) : SW P (Go.freeze ⟨b, off, none⟩ 1) K L := by
  intro Fr w x
  have r' := r.append Fr
  have e := r'.rd _ x
  refine ⟨(), w.freeze ⟨b, off, none⟩ 1, M (.cells cs T (off, off + 1)), by simp [Go.freeze, Sem.run], h, r'.wr _ _ _ x (fun c => by have q := heapOf_freeze (n := 1) (off := off) e (by decide) c; simpa using q), ⟨rfl, rfl, rfl, by simp [World.freeze]⟩⟩
section
variable {P : Program} {ro : Option Nat} {f : Frm} {L : List HP} {d : Option Nat} {ty : TypeId} {ps : String} {af : Array Edge} {gu : Option (Nat × Bool)} {K : Value → List HP → Prop}
theorem SV.convSame {s e : TypeId} {x : Operand} {b off len cap : Nat} {l : List Value} {T : TypeId} {M : Obj → List HP} (hx : f.ev x = .slice (some ⟨b, off, none⟩) len cap) [hs : TU P s (.slice e)] [he : TU P e (.int .u8)]
    [r : Wr L b (.cells l.toArray T (0, 0)) M] (h : K (.slice (some ⟨b, off, none⟩) len cap) (M (.cells l.toArray T (l.length, l.length + 1)))) : SV P ro ⟨d, .convert s s x, ty, ps, af, gu⟩ f K L := by
  refine (SV.val (Go.convert s s (f.ev x)) (by intro c h; cases h) rfl ?_)
  rw [hx]
  refine SW.bind (SW.underlying hs.h (SW.bind (SW.underlying hs.h ?_)))
  refine SW.bind (SW.underlying he.h ?_)
  simp only [beq_self_eq_true]
  refine SW.bind ?_
  unfold Go.markStringish
  refine SW.bind (SW.shape (cs := l.toArray) (T := T) (fr := (0, 0)) ⟨fun h x => r.rd h x⟩ ?_)
  exact SW.freeze1 r (SW.pure (by simpa using h))
end
end Go.SL
