/- A row of one's own whose front is cut off: what a queue is. Generic in the program. -/
import Derived.Test.YtcjpiceklicmoaaGreatDoorSlK
namespace Go.SL
set_option linter.unusedVariables false
set_option linter.unusedSimpArgs false
set_option linter.unusedSectionVars false

/-- n cells xs at a place of a block of one's own, with room up to c. -/
def OwnT (E : TypeId) (b off n c : Nat) (xs : List Value) : HP := hex fun q : List Value × List Value => conj [hpure (xs.length = n ∧ n ≤ c ∧ q.2.length = c - n ∧ (c = 0 ∨ off = q.1.length)), pts b (.cells (q.1 ++ (xs ++ q.2)).toArray E)]
section
variable {P : Program} {L R : List HP} {E b off n c : Nat} {xs : List Value}
theorem OwnT.opens {α : Type} {s : Sem α} {K : α → List HP → Prop} (t : Tk L (OwnT E b off n c xs) R) (h : ∀ pre sp, xs.length = n → n ≤ c → sp.length = c - n → (c = 0 ∨ off = pre.length) → SW P s K (pts b (.cells (pre ++ (xs ++ sp)).toArray E) :: R)) : SW P s K L := by
  intro Fr w x
  obtain ⟨⟨pre, sp⟩, x2⟩ := has_hex.1 (t.app Fr _ x)
  obtain ⟨⟨h1, h2, h3, h4⟩, x4⟩ := has_pure.1 (has_conj.1 x2)
  exact h pre sp h1 h2 h3 h4 Fr w x4
theorem OwnT.close (pre sp : List Value) (h1 : xs.length = n) (h2 : n ≤ c) (h3 : sp.length = c - n) (h4 : c = 0 ∨ off = pre.length) : Ent (pts b (.cells (pre ++ (xs ++ sp)).toArray E) :: R) (OwnT E b off n c xs :: R) :=
  Ent.closeI (p := fun q : List Value × List Value => xs.length = n ∧ n ≤ c ∧ q.2.length = c - n ∧ (c = 0 ∨ off = q.1.length)) (M := fun q => [pts b (.cells (q.1 ++ (xs ++ q.2)).toArray E)]) (pre, sp) ⟨h1, h2, h3, h4⟩ (Ent.refl _)
theorem OwnT.of (h : xs.length = n) (e : Ent L (pts b (.cells xs.toArray E) :: R)) : Ent L (OwnT E b 0 n n xs :: R) := by
  have := OwnT.close (E := E) (b := b) (off := 0) (R := R) (xs := xs) (n := n) (c := n) [] [] h (Nat.le_refl _) (by simp) (.inr rfl)
  rw [List.nil_append, List.append_nil] at this
  exact fun h x => this h (e h x)
theorem OwnT.rd (t : Tk L (OwnT E b off n c xs) R) (hl : xs.length = n) (hc : n ≤ c) : RdS 1 (some ⟨b, off, none⟩) n xs L := by
  refine ⟨by omega, fun _ => ⟨b, off, rfl⟩, fun b' off' e h0 h x => ?_⟩
  injection e with e; injection e with e1 e2; subst e1; subst e2
  obtain ⟨⟨pre, sp⟩, x2⟩ := has_hex.1 (t h x)
  obtain ⟨⟨h1, h2, h3, h4⟩, x4⟩ := has_pure.1 (has_conj.1 x2)
  dsimp only at h1 h2 h3 h4
  obtain rfl : off = pre.length := by omega
  refine ⟨_, E, (0, 0), has_pts x4, by simp; omega, ?_⟩
  rw [lsub_eq, List.drop_left, List.take_append_of_le_length (by omega), List.take_of_length_le (by omega)]
/-- The front is cut off. -/
theorem OwnT.tail {x : Value} {off' : Nat} (h : 0 < c → off' = off + 1 ∨ c = 1) : Ent (OwnT E b off (n + 1) c (x :: xs) :: R) (OwnT E b off' n (c - 1) xs :: R) := by
  intro hp y
  obtain ⟨⟨pre, sp⟩, x2⟩ := has_hex.1 y
  obtain ⟨⟨h1, h2, h3, h4⟩, x4⟩ := has_pure.1 (has_conj.1 x2)
  dsimp only at h1 h2 h3 h4
  have e : pre ++ (x :: xs ++ sp) = (pre ++ [x]) ++ (xs ++ sp) := by simp
  have x5 : Has (pts b (.cells ((pre ++ [x]) ++ (xs ++ sp)).toArray E) :: R) hp := by rw [← e]; exact x4
  refine OwnT.close (pre ++ [x]) sp (by simpa using h1) (by omega) (by omega) ?_ hp x5
  rw [List.length_append, List.length_singleton]
  have := h (by omega)
  omega
variable {tS tX by_ : Nat} {tsz : Array TypeId} {ty : TypeId} {z v : Value} {m : Nat} {ys : List Value} {K : Value → List HP → Prop}
theorem SW.appendT (h0 : tsz[0]? = some tS) (h1 : tsz[1]? = some tX) (he : elemOf P tS = some (E, 1)) (hb : tyBytes P E = some by_) (hz : tyZero P E = some z) (hzs : z.cells.size = 1) (hx : apTy P tX = true)
    (t : Tk L (OwnT E b off n c xs) R) (src : Src P 1 v m ys R) (hy : ys.length = m) (hm : m ≠ 0) (hc : ys.all isCell = true) (hbig : (2 * (n + m) + 192) * by_ ≤ 2 ^ 48) (h2 : by_ ≠ 0)
    (h : ∀ b' off' c', n + m ≤ c' → K (.slice (some ⟨b', off', none⟩) (n + m) c') (OwnT E b' off' (n + m) c' (xs ++ ys) :: R)) : SW P (Builtin.append_ tsz ty #[.slice (some ⟨b, off, none⟩) n c, v]) K L := by
  refine OwnT.opens t fun pre sp q1 q2 q3 q4 => ?_
  have src' : Src P 1 v m ys (pts b (.cells (pre ++ (xs ++ sp)).toArray E) :: R) := ⟨src.1, fun Fr w y => src.2 Fr w y.tail⟩
  by_cases hfit : n + m ≤ c
  · obtain rfl : off = pre.length := by omega
    obtain ⟨hs, hn⟩ := elemOf_some he
    have fin : SW P (do Go.storeCells ((⟨b, pre.length, none⟩ : Addr).add (n * 1)) ys; Pure.pure (Value.slice (some ⟨b, pre.length, none⟩) (n + m) c) : Sem Value) K (pts b (.cells (pre ++ (xs ++ sp)).toArray E) :: R) := by
      rw [add_none]
      have hlen : (pre ++ (xs ++ sp)).toArray.size = pre.length + c := by simp; omega
      have e : putAt (pre ++ (xs ++ sp)).toArray (pre.length + n * 1) ys = (pre ++ ((xs ++ ys) ++ sp.drop m)).toArray := by
        have h3 : sp = sp.take m ++ sp.drop m := (List.take_append_drop _ _).symm
        conv => lhs; rw [h3]
        rw [show pre.length + n * 1 = (pre ++ xs).length by simp; omega]
        have := putAt_list (pre ++ xs) (sp.take m) (sp.drop m) ys (by rw [List.length_take]; omega)
        simp only [List.append_assoc] at this ⊢
        exact this
      refine SW.bind (SW.storeCells (K := fun _ L' => SW P (Pure.pure (Value.slice (some ⟨b, pre.length, none⟩) (n + m) c) : Sem Value) K L') ys 0 _ (.inl (Nat.le_refl _)) Wr.here WrM.here.w hc (by rw [hlen]; omega) (fun g => ?_) (fun e0 => absurd (by rw [← hy, e0]; rfl) hm))
      rw [Nat.add_zero, e]
      refine SW.ent (OwnT.close pre (sp.drop m) (by simp; omega) hfit (by rw [List.length_drop]; omega) (.inr rfl)) ?_
      exact SW.pure (h _ _ _ hfit)
    unfold Builtin.append_
    simp only [h0, h1, show (#[Value.slice (some ⟨b, pre.length, none⟩) n c, v] : Array Value)[0]? = some (.slice (some ⟨b, pre.length, none⟩) n c) from rfl, show (#[Value.slice (some ⟨b, pre.length, none⟩) n c, v] : Array Value)[1]? = some v from rfl]
    refine SW.bind (SW.underlying hs ?_)
    refine SW.bind (SW.sizeOf hn ?_)
    rcases apTy_or hx with ⟨e', hX⟩ | hX
    · refine SW.bind (SW.underlying hX (SW.bind (SW.pure ?_)))
      simp only [Bool.false_eq_true, if_false, Bool.not_false, if_true]
      refine SW.bind (SW.runs (fun _ w _ => src'.1 w) ?_)
      rw [if_pos hfit]
      refine SW.bind (SW.runs src'.2 ?_)
      exact fin
    · refine SW.bind (SW.underlying hX (SW.bind (SW.pure ?_)))
      simp only [Bool.false_eq_true, if_false, Bool.not_false, if_true]
      refine SW.bind (SW.runs (fun _ w _ => src'.1 w) ?_)
      rw [if_pos hfit]
      refine SW.bind (SW.runs src'.2 ?_)
      exact fin
  · have old : ∀ Fr w, Has (pts b (.cells (pre ++ (xs ++ sp)).toArray E) :: R ++ Fr) (heapOf w) → (Builtin.firstCells 1 n (.slice (some ⟨b, off, none⟩) n c)).run P w = .ok xs.toArray w := by
      intro Fr w y
      have rd : RdS 1 (some ⟨b, off, none⟩) n xs (pts b (.cells (pre ++ (xs ++ sp)).toArray E) :: R) := RdS.ent (OwnT.close (E := E) (c := c) pre sp q1 q2 q3 q4) (OwnT.rd Tk.here q1 q2)
      exact (rd.src (P := P) (c := c)).2 Fr w y
    intro Fr w x
    obtain ⟨r, w', L', a, ⟨b', c', sp', rfl, rfl, g1, g2⟩, x', d⟩ := SW.appendGrow (K := fun v' L' => ∃ b' c' sp', v' = .slice (some ⟨b', 0, none⟩) (n + m) c' ∧ L' = pts b' (.cells ((xs ++ ys) ++ sp').toArray E) :: pts b (.cells (pre ++ (xs ++ sp)).toArray E) :: R ∧ n + m ≤ c' ∧ sp'.length = (c' - (n + m)) * 1)
      (ty := ty) h0 h1 he hb hz hzs hx old src' hbig (by omega) (.inl h2) (fun b c sp g1 g2 => ⟨b, c, sp, rfl, rfl, g1, g2⟩) Fr w x
    refine ⟨_, w', _, a, h b' 0 c' g1, ?_, d⟩
    have x2 : Has (pts b' (.cells ((xs ++ ys) ++ sp').toArray E) :: (R ++ Fr)) (heapOf w') := Has.cons_of (fun _ y => y.tail) x'
    exact OwnT.close (R := R ++ Fr) [] sp' (by rw [List.length_append]; omega) g1 (by omega) (.inr rfl) _ x2
end
section
variable {P : Program} {ro : Option Nat} {f : Frm} {L : List HP} {d : Option Nat} {ty : TypeId} {ps : String} {af : Array Edge} {gu : Option (Nat × Bool)} {K : Value → List HP → Prop}
theorem SV.appendT {tS tX E by_ b off n c m : Nat} {z : Value} {v : Value} {xs ys : List Value} {R : List HP} {x y : Operand} (hx : f.ev x = .slice (some ⟨b, off, none⟩) n c) (hy : f.ev y = v) [he : TE P tS E 1] [hb : TB P E by_] [hz : TZ P E [z]] [hX : TX P tX]
    (t : Tk L (OwnT E b off n c xs) R) (src : Src P 1 v m ys R) (hyl : ys.length = m) (hm : m ≠ 0) (hc : ys.all isCell = true) (hbig : (2 * (n + m) + 192) * by_ ≤ 2 ^ 48) (h2 : Nat.ble 1 by_ = true)
    (h : ∀ b' off' c', n + m ≤ c' → K (.slice (some ⟨b', off', none⟩) (n + m) c') (OwnT E b' off' (n + m) c' (xs ++ ys) :: R)) :
    SV P ro ⟨d, .call { callee := .builtin .append, args := #[x, y], argTypes := #[tS, tX] }, ty, ps, af, gu⟩ f K L := by
  obtain ⟨v', h3, h4⟩ := hz.ex
  refine SV.bi (vs := [.slice (some ⟨b, off, none⟩) n c, v]) (s := Builtin.append_ #[tS, tX] ty #[.slice (some ⟨b, off, none⟩) n c, v]) (by simp [hx, hy]) (fun _ => rfl) ?_
  exact SW.appendT rfl rfl he.h hb.h h3 (by rw [h4]; rfl) hX.h t src hyl hm hc hbig (by have := Nat.le_of_ble_eq_true h2; omega) h
end
end Go.SL
