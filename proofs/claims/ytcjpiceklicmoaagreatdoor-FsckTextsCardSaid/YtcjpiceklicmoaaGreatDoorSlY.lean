/- Rows with spare room. Generic in the program. -/
import Derived.Test.YtcjpiceklicmoaaGreatDoorSlX
namespace Go.SL
set_option linter.unusedVariables false
set_option linter.unusedSimpArgs false
set_option linter.unusedSectionVars false
theorem Ent.framed {L M : List HP} (e : Ent L M) (X : List HP) : Ent (L ++ X) (M ++ X) := fun h x => e.app X h x
section
variable {P : Program} {ro : Option Nat} {f : Frm} {L R : List HP} {d : Option Nat} {ty : TypeId} {ps : String} {af : Array Edge} {gu : Option (Nat × Bool)} {K : Value → List HP → Prop}
theorem SW.makeSlice2 {t e n by_ : Nat} {z c : Value} {len cp : Nat} {K : Value → List HP → Prop} (he : elemOf P t = some (e, n)) (hb : tyBytes P e = some by_) (hz : tyZero P e = some z) (hzn : n = 1) (hzc : z.cells = #[c]) (h1 : by_ * cp ≤ 2 ^ 48) (hl : len ≤ cp) (hm : cp ≤ 9223372036854775807) (h0 : cp ≠ 0)
    (h : ∀ b, K (.slice (some ⟨b, 0, none⟩) len cp) (Own e 1 (.slice (some ⟨b, 0, none⟩) len cp) len (List.replicate len c) :: L)) : SW P (Instr.makeSlice t (.int .i64 len) (.int .i64 cp)) K L := by
  obtain ⟨hs, hn⟩ := elemOf_some he
  have hw1 : IntKind.i64.wrap (len : Int) = len := i64w (by omega) (by omega)
  have hw2 : IntKind.i64.wrap (cp : Int) = cp := i64w (by omega) (by omega)
  have h1' : (by_ : Int) * (cp : Int) ≤ 2 ^ 48 := by exact_mod_cast h1
  have h1'' : (by_ : Int) * (len : Int) ≤ 2 ^ 48 := by
    have : by_ * len ≤ by_ * cp := Nat.mul_le_mul_left _ hl
    have : ((by_ * len : Nat) : Int) ≤ ((by_ * cp : Nat) : Int) := by exact_mod_cast this
    push_cast at this
    omega
  unfold tyBytes at hb
  cases hi : P.info? e with
  | none => simp [hi] at hb
  | some i =>
    simp [hi] at hb; subst hb; subst hzn
    refine SW.bind (SW.underlying hs (SW.bind ?_))
    refine SW.bind (SW.pure (SW.pure (SW.bind ?_)))
    refine SW.bind (SW.pure (SW.pure (SW.bind (SW.typeInfo hi ?_))))
    simp only [hw1, hw2]
    have c1 : ¬ (cp : Int) < 0 := by omega
    have c1' : ¬ (len : Int) < 0 := by omega
    have c2 : ¬ ((i.bytes : Int) * (cp : Int) > 2 ^ 48) := by omega
    have c3 : ¬ ((len : Int) > (cp : Int)) := by omega
    simp only [c1, c1', c2, c3, decide_false, Bool.or_false, gt_iff_lt, Int.lt_irrefl, Bool.false_eq_true, if_false]
    refine SW.bind (SW.askRoom (SW.bind (SW.sizeOf hn ?_)))
    simp only [Nat.mul_one, Int.toNat_natCast]
    rw [if_neg h0]
    refine SW.bind (SW.zeroValue hz (SW.bind (SW.pure (SW.bind (SW.bind (SW.new fun b => ?_))))))
    have e : (Array.range cp).map (fun x => z.cells[x % z.cells.size]!) = Array.replicate cp c := by
      rw [hzc]
      apply Array.ext
      · simp
      · intro j h1 h2; simp [Nat.mod_one]
    rw [e]
    have e2 : Array.replicate cp c = (List.replicate len c ++ List.replicate (cp - len) c).toArray := by
      rw [List.replicate_append_replicate, show len + (cp - len) = cp by omega]
      simp
    rw [e2]
    refine SW.ent (M := Own _ 1 (.slice (some ⟨b, 0, none⟩) len cp) len (List.replicate len c) :: L) (fun k x => own_of (cap := cp) (fr := (0, 0)) ⟨rfl, hl, by simp, by simp, .inl (Nat.le_refl _)⟩ x) ?_
    exact SW.pure (SW.pure (h b))
/-- A new row with spare room. -/
theorem SV.makeSlice2 {t e by_ : Nat} {z : Value} {x y : Operand} {len cp : Nat} (hx : f.ev x = .int .i64 len) (hy : f.ev y = .int .i64 cp) [he : TE P t e 1] [hb : TB P e by_] [hz : TZ P e [z]] (h1 : by_ * cp ≤ 2 ^ 48) (hl : len ≤ cp) (h2 : cp ≤ 9223372036854775807) (h0 : cp ≠ 0)
    (h : ∀ b, K (.slice (some ⟨b, 0, none⟩) len cp) (Own e 1 (.slice (some ⟨b, 0, none⟩) len cp) len (List.replicate len z) :: L)) : SV P ro ⟨d, .makeSlice t x y, ty, ps, af, gu⟩ f K L := by
  obtain ⟨v, h3, h4⟩ := hz.ex
  refine (SV.val (Instr.makeSlice t (f.ev x) (f.ev y)) (by intro c h; cases h) rfl ?_)
  rw [hx, hy]
  refine SW.makeSlice2 he.h hb.h h3 rfl (c := z) (by simpa using h4) h1 hl h2 h0 ?_
  exact h
/-- A cut with three bounds. -/
theorem SV.cut3 {t e sz : Nat} {x y z u : Operand} {k1 k2 k3 : IntKind} {b off len cap l h m : Nat} (hx : f.ev x = .slice (some ⟨b, off, none⟩) len cap) [he : TE P t e sz] (hl : f.ev y = .int k1 l) (hh : f.ev z = .int k2 h) (hm : f.ev u = .int k3 m) (h1 : l ≤ h) (h2 : h ≤ m) (h3 : m ≤ cap)
    (k : K (.slice (some ⟨b, if m = l then off else off + l * sz, none⟩) (h - l) (m - l)) L) : SV P ro ⟨d, .slice t x (some y) (some z) (some u), ty, ps, af, gu⟩ f K L := by
  obtain ⟨hs, hn⟩ := elemOf_some he.h
  refine (SV.val (Instr.sliceAt t (f.ev x) ((some y).map f.ev) ((some z).map f.ev) (Option.map f.ev (some u))) (by intro c h; cases h) rfl ?_)
  rw [hx]
  unfold Instr.sliceAt
  refine SW.bind (SW.underlying hs ?_)
  unfold Instr.slice
  refine SW.bind (SW.underlying hs ?_)
  refine SW.bind (SW.runs (a := (l, h, m)) (fun _ w _ => ?_) ?_)
  · unfold Instr.sliceBounds
    simp [hl, hh, hm, sliceBound_ok h1, sliceBound_ok h2, sliceBound_ok h3]
  refine SW.bind (SW.sizeOf hn (SW.pure ?_))
  by_cases hc : m = l
  · rw [if_pos hc] at k ⊢; exact k
  · rw [if_neg hc] at k ⊢; simp only [Option.map_some, add_none]; exact k
end
end Go.SL
