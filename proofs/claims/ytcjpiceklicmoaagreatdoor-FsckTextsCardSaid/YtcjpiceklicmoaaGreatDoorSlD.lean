/- SL 13: a scope that no jump leaves. -/
import Derived.Test.YtcjpiceklicmoaaGreatDoorSlC
import Derived.Scope
namespace Go
variable {P : Program} {b : Frame} {a : Act} {k : List Item} {cs : List Frame} {w : World} {Q : Exit → Act → World → Prop}
theorem stepR_scope {c : Code} : step P (lone (b.atR a (.code (.scope c) :: k)) cs w) = .next (lone (b.atR a (.code c :: .inScope c :: k)) cs w) :=
  step_lone_go (by simp [stepG, stepG.exec, Frame.atR])
theorem stepR_inScope {c : Code} : step P (lone (b.atR a (.inScope c :: k)) cs w) = .next (lone (b.atR a k) cs w) :=
  step_lone_go (by simp [stepG, stepG.exec, Frame.atR])
theorem wpIn_scope {F : Fence} {n : Nat} {c : Code} (h : c.wpIn F n P (Exit.noGoto Q) a w) : (Code.scope c).wpIn F n P Q a w := by
  intro b k cs hro hb hr
  have h0 : (lone (b.atR a (.code (.scope c) :: k)) cs w).fenced P F := fenced_calm hb hr rfl
  obtain ⟨e, a₁, w₁, hq, harr⟩ := h b (.inScope c :: k) cs hro hb hr
  cases e with
  | normal => exact ⟨.normal, a₁, w₁, hq, .head h0 stepR_scope (StepsIn.trans harr (.one (fenced_calm hb hr rfl) stepR_inScope))⟩
  | exit id =>
    have hx : exitTo id (.inScope c :: k) = exitTo id k := by simp [exitTo]
    exact ⟨.exit id, a₁, w₁, hq, fun k' hk => .head h0 stepR_scope (harr.1 k' (by rw [hx]; exact hk)),
      fun hr' hk => let ⟨k₁, h1, h2⟩ := harr.2 hr' (by rw [hx]; exact hk); ⟨k₁, h1, .head h0 stepR_scope h2⟩⟩
  | goto l => exact hq.elim
  | ret => exact ⟨_, a₁, w₁, hq, .of_steps (.one h0 stepR_scope) harr⟩
  | panic ch => exact ⟨_, a₁, w₁, hq, .of_steps (.one h0 stepR_scope) harr⟩
  | outgrown => exact ⟨_, a₁, w₁, hq, .of_steps (.one h0 stepR_scope) harr⟩
namespace SL
def noG (Q : Post) : Post
  | .goto _, _, _ => False
  | e, f, L => Q e f L
theorem W.scope {P : Program} {N : Nat} {ro : Option Nat} {c : Code} {Q : Post} {f : Frm} {L : List HP} (h : W P N ro c (noG Q) f L) : W P N ro (.scope c) Q f L := by
  intro Fr w a r x
  refine wpIn_scope (wpIn_mono (h Fr w a r x) ?_)
  rintro e a' w' ⟨f', L', r', q, y, kp, kt⟩
  cases e with
  | goto l => exact q.elim
  | normal => exact ⟨f', L', r', q, y, kp, kt⟩
  | exit id => exact ⟨f', L', r', q, y, kp, kt⟩
  | ret => exact ⟨f', L', r', q, y, kp, kt⟩
  | panic ch => exact ⟨f', L', r', q, y, kp, kt⟩
  | outgrown => exact ⟨f', L', r', q, y, kp, kt⟩
/-- A frame of which only some slots are told. -/
def fresh (bg : Nat → Value) (ds : List Deferred) (sl : List (Nat × Value)) : Frm := { v := fun t => at_ t sl, ds := ds }
where
  at_ (t : Nat) : List (Nat × Value) → Value
    | [] => bg t
    | p :: l => bif Nat.beq t p.1 then p.2 else at_ t l
theorem fresh_eq {f : Frm} {sl : List (Nat × Value)} (h : Told f sl) : fresh f.v f.ds sl = f := by
  have : ∀ (l : List (Nat × Value)), Told f l → ∀ t, fresh.at_ f.v t l = f.v t := by
    intro l
    induction l with
    | nil => intro _ t; rfl
    | cons p l ih =>
      intro ht t
      simp only [fresh.at_]
      cases h : Nat.beq t p.1 with
      | true => have := Nat.eq_of_beq_eq_true h; subst this; exact ht.1.symm
      | false => exact ih ht.2 t
  cases f with
  | mk v ds => simp only [fresh]; congr 1; funext t; exact this sl h t
/-- Forgets all slots but some. -/
theorem W.abs {P : Program} {N : Nat} {ro : Option Nat} {c : Code} {Q : Post} {f : Frm} {L : List HP} (sl : List (Nat × Value)) (h : Told f sl) (k : ∀ bg, W P N ro c Q (fresh bg f.ds sl) L) : W P N ro c Q f L := by
  have := k f.v
  rwa [fresh_eq h] at this
end SL
end Go
