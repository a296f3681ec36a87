/- A draw layer where what reads nothing may stand anywhere. Generic in the program. -/
import Derived.Test.YtcjpiceklicmoaaGreatDoorSlN
namespace Go.SL
set_option linter.unusedVariables false
set_option linter.unusedSimpArgs false
set_option linter.unusedSectionVars false

section
variable (P : Program) (ro : Option Nat) (all : Array Oper) (K : Frm → List HP → Prop)
/-- Those that are held to their place read all; the others nothing. -/
def DP (bf : Array Nat) : Nat → List Oper → Frm → List HP → Prop
  | _, [], f, H => K f H
  | i, o :: R, f, H =>
    (wF all f o = false ∧ DP bf (i + 1) R (f.putO o.dst undef) H) ∨
    (wF all f o = true ∧
      if isQ o.op then ∃ v A, (A = [] ∨ (pinned bf all i = true ∧ A = H)) ∧ SV P ro o f (fun v' L' => v' = v ∧ L' = A) A ∧ DP bf (i + 1) R (f.putO o.dst v) H
      else isA o.op = false ∧ OW P ro o f (fun f' L' => DP bf (i + 1) R f' L') H)
end
section
variable {P : Program} {ro : Option Nat} {ops : Array Oper} {K : Frm → List HP → Prop}
theorem DP.ds {bf : Array Nat} : ∀ (l : List Oper) (i : Nat) (f : Frm) (H : List HP), ops.toList.drop i = l → DP P ro ops K bf i l f H → DS P ro (fun _ => false) bf ops K [] (idx l.length i) f H
  | [], i, f, H, _, h => h
  | o :: l, i, f, H, e, h => by
    obtain ⟨e1, e2, e3⟩ := opAt_list e
    have ih := DP.ds (bf := bf) l (i + 1)
    simp only [List.length_cons, idx, DS, e1]
    simp only [DP] at h
    rcases h with ⟨h1, h2⟩ | ⟨h1, h2⟩
    · exact .inl ⟨h1, ih _ _ e3 h2⟩
    · refine .inr ⟨h1, ?_⟩
      by_cases hq : isQ o.op = true
      · rw [if_pos hq] at h2 ⊢
        obtain ⟨v, A, hA, h3, h4⟩ := h2
        refine ⟨v, ?_, ih _ _ e3 h4⟩
        rcases hA with rfl | ⟨hp, rfl⟩
        · split
          · simp only [al, List.nil_append]
            exact SV.frameQ (A := []) (M := H) (fun h x => by simpa using x) (fun h x => by simpa using x) h3
          · exact h3
        · simp only [hp, if_true, al, List.nil_append]; exact h3
      · rw [if_neg hq] at h2 ⊢
        obtain ⟨ha, h3⟩ := h2
        rw [if_neg (by rw [ha]; simp)]
        exact OW.monoW rfl rfl h3 (fun v L _ => ⟨fun k => ⟨[], L, Ent.refl _, ih _ _ e3 k⟩, fun d k => ⟨[], L, Ent.refl _, ih _ _ e3 k⟩⟩)
variable {N : Nat} {id : Nat} {Q : Post} {f : Frm} {L H : List HP}
theorem W.drawP (bf : Array Nat) (hm : P.follows .mixedOrders = true) (hb : Region.before ops = bf) (chk : drawOk bf ops = true) (hN : ops.all (fun o => dOk N o.dst) = true)
    (h : DP P ro ops (fun f L => ∃ M, Ent L M ∧ Q .normal f M) bf 0 ops.toList f L) : W P N ro (.region id ops true) Q f L := by
  subst hb
  refine W.draw (D := fun _ => false) (S := []) (H := L) _ hm chk hN (Ent.refl _) ?_
  have := DP.ds ops.toList 0 f L rfl h
  rw [idx_range, Array.length_toList] at this
  exact this
variable {all : Array Oper} {R : List Oper} {d : Option Nat} {op : Op} {ty : TypeId} {ps : String} {af : Array Edge} {gu : Option (Nat × Bool)} {v : Value} {bf : Array Nat} {i : Nat}
theorem DP.nil (h : K f H) : DP P ro all K bf i [] f H := h
theorem DP.off (hw : wF all f ⟨d, op, ty, ps, af, gu⟩ = false) (k : DP P ro all K bf (i + 1) R (f.putO d undef) H) : DP P ro all K bf i (⟨d, op, ty, ps, af, gu⟩ :: R) f H := .inl ⟨hw, k⟩
theorem DP.n (hq : isQ op = true) (hw : wF all f ⟨d, op, ty, ps, af, gu⟩ = true) (h : SV P ro ⟨d, op, ty, ps, af, gu⟩ f (fun v' L' => v' = v ∧ L' = []) []) (k : DP P ro all K bf (i + 1) R (f.putO d v) H) : DP P ro all K bf i (⟨d, op, ty, ps, af, gu⟩ :: R) f H := by
  refine .inr ⟨hw, ?_⟩
  rw [if_pos hq]; exact ⟨v, [], .inl rfl, h, k⟩
theorem DP.q (hq : isQ op = true) (hp : pinned bf all i = true) (hw : wF all f ⟨d, op, ty, ps, af, gu⟩ = true) (h : SV P ro ⟨d, op, ty, ps, af, gu⟩ f (fun v' L' => v' = v ∧ L' = H) H) (k : DP P ro all K bf (i + 1) R (f.putO d v) H) : DP P ro all K bf i (⟨d, op, ty, ps, af, gu⟩ :: R) f H := by
  refine .inr ⟨hw, ?_⟩
  rw [if_pos hq]; exact ⟨v, H, .inr ⟨hp, rfl⟩, h, k⟩
theorem DP.act (hq : isQ op = false) (ha : isA op = false) (hw : wF all f ⟨d, op, ty, ps, af, gu⟩ = true) (h : SV P ro ⟨d, op, ty, ps, af, gu⟩ f (fun v L' => DP P ro all K bf (i + 1) R (f.putO d v) L') H) : DP P ro all K bf i (⟨d, op, ty, ps, af, gu⟩ :: R) f H := by
  refine .inr ⟨hw, ?_⟩
  rw [if_neg (by rw [hq]; simp)]; exact ⟨ha, OW.sv h⟩
end
end Go.SL
