/- Layer 7: a device: what its functions do, each walked once (2). -/
import Derived.Test.YtlcahhfbhjbgoaaDx
namespace Go.SL
open Go.Proofs
set_option linter.unusedVariables false
set_option maxRecDepth 10000
attribute [local irreducible] W WO SV OW SW Tri Ent Tk Has Src SrcK DA DB RdS Own

@[simp] theorem Dv.call_kept (d : Dv) (may : Bool) : (d.call may).1.kept = d.kept := by unfold Dv.call; split; rfl; split <;> rfl
@[simp] theorem Dv.call_now (d : Dv) (may : Bool) : (d.call may).1.now = d.now := by unfold Dv.call; split; rfl; split <;> rfl
@[simp] theorem Dv.call_waits (d : Dv) (may : Bool) : (d.call may).1.waits = d.waits := by unfold Dv.call; split; rfl; split <;> rfl
theorem Dv.call_err (d : Dv) (may : Bool) : (d.call may).2 = 0 ∨ (d.call may).2 = 1 ∨ (d.call may).2 = 2 ∨ (d.call may).2 = 17 := by
  unfold Dv.call; split; exact .inr (.inl rfl); split; exact .inr (.inr (.inl rfl)); dsimp only; split; exact .inr (.inr (.inr rfl)); exact .inl rfl
theorem Dv.call_zero {d : Dv} {may : Bool} (h : (d.call may).2 = 0) : d.kept.length ≠ 0 ∧ may = true := by
  unfold Dv.call at h
  split at h
  · cases h
  · split at h
    · cases h
    · rename_i h1 h2; exact ⟨h1, by simpa using h2⟩

/-- What a Read answers. -/
def Dv.read (d : Dv) (n : Int) : Dv × Int := d.call (d.is n)
def Dv.put (d : Dv) (n : Int) (s : Byt) : Dv × Int :=
  if (d.call (d.is n && decide (s.length = 256))).2 = 0 then ({ (d.call (d.is n && decide (s.length = 256))).1 with now := d.now.set n.toNat s, waits := d.waits ++ [(n.toNat, s)] }, 0) else d.call (d.is n && decide (s.length = 256))
def Dv.flush (d : Dv) : Dv × Int :=
  if (d.call true).2 = 0 then ({ (d.call true).1 with kept := flushN d.kept d.waits d.waits.length, waits := [] }, 0) else d.call true
def keepN (ks : List Int) (i : Nat) : Nat := (max 0 (min (ks.getD i 0) 256)).toNat
def fallN (kept : List Byt) (waits : List (Nat × Byt)) (ks : List Int) : Nat → List Byt
  | 0 => kept
  | i + 1 => (fallN kept waits ks i).set (waits.getD i (0, [])).1 ((waits.getD i (0, [])).2.take (keepN ks i) ++ ((fallN kept waits ks i).getD (waits.getD i (0, [])).1 []).drop (keepN ks i))
def Dv.fall (d : Dv) (ks : List Int) : Dv :=
  if d.kept.length = 0 then d else ⟨fallN d.kept d.waits ks d.waits.length, fallN d.kept d.waits ks d.waits.length, [], -1, false, d.ops⟩
theorem flushN_len (kept : List Byt) (waits : List (Nat × Byt)) : ∀ i, (flushN kept waits i).length = kept.length
  | 0 => rfl
  | i + 1 => by rw [flushN, List.length_set, flushN_len kept waits i]
theorem fallN_len (kept : List Byt) (waits : List (Nat × Byt)) (ks : List Int) : ∀ i, (fallN kept waits ks i).length = kept.length
  | 0 => rfl
  | i + 1 => by rw [fallN, List.length_set, fallN_len kept waits ks i]
theorem keepN_le (ks : List Int) (i : Nat) : keepN ks i ≤ 256 := by unfold keepN; omega
theorem getD_mem {α : Type} {l : List α} {i : Nat} {x : α} (h : i < l.length) : l.getD i x ∈ l := by
  rw [List.getD_eq_getElem?_getD, List.getElem?_eq_getElem h]; exact List.getElem_mem h
theorem flushN_256 {kept : List Byt} {waits : List (Nat × Byt)} (hk : ∀ s ∈ kept, s.length = 256) (hw : ∀ w ∈ waits, w.2.length = 256) : ∀ i, i ≤ waits.length → ∀ s ∈ flushN kept waits i, s.length = 256
  | 0, _, s, h => hk s h
  | i + 1, hi, s, h => by
    rcases List.mem_or_eq_of_mem_set h with h | h
    · exact flushN_256 hk hw i (by omega) s h
    · rw [h]; exact hw _ (getD_mem (by omega))
theorem fallN_256 {kept : List Byt} {waits : List (Nat × Byt)} {ks : List Int} (hk : ∀ s ∈ kept, s.length = 256) (hw : ∀ w ∈ waits, w.1 < kept.length ∧ w.2.length = 256) : ∀ i, i ≤ waits.length → ∀ s ∈ fallN kept waits ks i, s.length = 256
  | 0, _, s, h => hk s h
  | i + 1, hi, s, h => by
    rcases List.mem_or_eq_of_mem_set h with h | h
    · exact fallN_256 hk hw i (by omega) s h
    · have h1 := hw _ (getD_mem (l := waits) (i := i) (x := (0, [])) (by omega))
      have h2 := fallN_256 hk hw (ks := ks) i (by omega) _ (getD_mem (l := fallN kept waits ks i) (i := (waits.getD i (0, [])).1) (x := []) (by rw [fallN_len]; exact h1.1))
      have := keepN_le ks i
      rw [h, List.length_append, List.length_take, List.length_drop, h1.2, h2]; omega
theorem flushN_app (kept : List Byt) (ws : List (Nat × Byt)) (w : Nat × Byt) : ∀ i, i ≤ ws.length → flushN kept (ws ++ [w]) i = flushN kept ws i
  | 0, _ => rfl
  | i + 1, h => by
    rw [flushN, flushN, flushN_app kept ws w i (by omega)]
    have : (ws ++ [w]).getD i (0, []) = ws.getD i (0, []) := by
      rw [List.getD_eq_getElem?_getD, List.getD_eq_getElem?_getD, List.getElem?_append_left (by omega)]
    rw [this]
theorem flushN_snoc (kept : List Byt) (ws : List (Nat × Byt)) (w : Nat × Byt) : flushN kept (ws ++ [w]) (ws.length + 1) = (flushN kept ws ws.length).set w.1 w.2 := by
  rw [flushN, flushN_app _ _ _ _ (Nat.le_refl _)]
  have : (ws ++ [w]).getD ws.length (0, []) = w := by
    rw [List.getD_eq_getElem?_getD, List.getElem?_append_right (Nat.le_refl _)]; simp
  rw [this]
theorem Dv.put_ok {d : Dv} (ok : d.Ok) (n : Int) (s : Byt) : (d.put n s).1.Ok := by
  have h := Dv.call_ok ok (d.is n && decide (s.length = 256))
  unfold Dv.put
  split
  · rename_i h0
    have hm := (Dv.call_zero h0).2
    simp only [Bool.and_eq_true, decide_eq_true_eq, Dv.is] at hm
    refine ⟨?_, by simpa using ok.size, by simpa using ok.k256, ?_, ?_, h.arm, ?_⟩
    · simp only [List.length_set, Dv.call_kept]; exact ok.now
    · intro t ht
      rcases List.mem_or_eq_of_mem_set ht with q | q
      · exact ok.n256 _ q
      · rw [q]; exact hm.2
    · intro w hw
      simp only [Dv.call_kept]
      rcases List.mem_append.1 hw with q | q
      · exact ok.w256 _ q
      · rw [List.mem_singleton] at q
        subst q
        exact ⟨by dsimp only; omega, hm.2⟩
    · simp only [Dv.call_kept, List.length_append, List.length_singleton]
      rw [flushN_snoc, ok.sync]
  · exact h
theorem Dv.flush_ok {d : Dv} (ok : d.Ok) : d.flush.1.Ok := by
  have h := Dv.call_ok ok true
  unfold Dv.flush
  split
  · exact ⟨by simp only [flushN_len, Dv.call_now]; exact ok.now, by simp only [flushN_len]; exact ok.size, flushN_256 ok.k256 (fun w hw => (ok.w256 w hw).2) _ (Nat.le_refl _), by simpa using ok.n256, fun w hw => (by cases hw), h.arm, by simp only [List.length_nil, flushN, Dv.call_now]; exact ok.sync⟩
  · exact h
theorem Dv.fall_ok {d : Dv} (ok : d.Ok) (ks : List Int) : (d.fall ks).Ok := by
  unfold Dv.fall
  split
  · exact ok
  · exact ⟨rfl, by simp only [fallN_len]; exact ok.size, fallN_256 ok.k256 ok.w256 _ (Nat.le_refl _), fallN_256 ok.k256 ok.w256 _ (Nat.le_refl _), fun w hw => (by cases hw), by simp, rfl⟩

theorem dv_Waiting (b : Nat) (d : Dv) (R : List HP) : TriE Try.prog 42 #[.pointer (some ⟨b, 0, none⟩)]
    (fun v M => v = .int .i64 (if d.kept.length = 0 then 0 else d.waits.length : Nat) ∧ M = DevH b d :: R) (DevH b d :: R) := by
  refine DevH.opens fun x h1 h2 h3 => ?_
  have hc := DevH.close (b := b) (R := R) x h1 h2 h3 (Ent.refl _)
  obtain ⟨ka, kc, na, nc, wa, wc⟩ := x
  simp only [dvL, List.cons_append, List.nil_append] at hc ⊢
  refine Tri.of (N := 10) (args := [.pointer (some ⟨b, 0, none⟩)]) Try.func42 rfl rfl rfl ?_
  refine go ?_
  refine WO.callE (vs := [.pointer (some ⟨b, 0, none⟩)]) Try.func66 rfl rfl rfl rfl (dv_none b _ _ _ _ _ _ _ _ _ (RdS.all rfl)) ?_
  rintro v M ⟨rfl, rfl⟩
  refine go ?_
  refine W.if rfl (fun h => ?_) (fun h => ?_)
  · refine go ?_
    exact ⟨rfl, [_], ⟨Res.tmp rfl, trivial⟩, _, hc, by rw [if_pos h]; rfl, rfl⟩
  · refine go ?_
    exact ⟨rfl, [_], ⟨Res.tmp rfl, trivial⟩, _, hc, by rw [if_neg h]; rfl, rfl⟩
theorem dv_Down (b : Nat) (d : Dv) (R : List HP) : TriE Try.prog 43 #[.pointer (some ⟨b, 0, none⟩)]
    (fun v M => v = .bool (!decide (d.kept.length = 0) && d.down) ∧ M = DevH b d :: R) (DevH b d :: R) := by
  refine DevH.opens fun x h1 h2 h3 => ?_
  have hc := DevH.close (b := b) (R := R) x h1 h2 h3 (Ent.refl _)
  obtain ⟨ka, kc, na, nc, wa, wc⟩ := x
  simp only [dvL, List.cons_append, List.nil_append] at hc ⊢
  refine Tri.of (N := 12) (args := [.pointer (some ⟨b, 0, none⟩)]) Try.func43 rfl rfl rfl ?_
  refine go ?_
  refine WO.callE (vs := [.pointer (some ⟨b, 0, none⟩)]) Try.func66 rfl rfl rfl rfl (dv_none b _ _ _ _ _ _ _ _ _ (RdS.all rfl)) ?_
  rintro v M ⟨rfl, rfl⟩
  by_cases h : d.kept.length = 0
  · rw [decide_eq_true h]
    refine go ?_
    exact ⟨rfl, [_], ⟨Res.tmp rfl, trivial⟩, _, hc, rfl, rfl⟩
  · rw [decide_eq_false h]
    refine go ?_
    exact ⟨rfl, [_], ⟨Res.tmp rfl, trivial⟩, _, hc, rfl, rfl⟩
theorem dv_Ops (b : Nat) (d : Dv) (R : List HP) : TriE Try.prog 53 #[.pointer (some ⟨b, 0, none⟩)]
    (fun v M => v = .int .i64 (if d.kept.length = 0 then 0 else d.ops) ∧ M = DevH b d :: R) (DevH b d :: R) := by
  refine DevH.opens fun x h1 h2 h3 => ?_
  have hc := DevH.close (b := b) (R := R) x h1 h2 h3 (Ent.refl _)
  obtain ⟨ka, kc, na, nc, wa, wc⟩ := x
  simp only [dvL, List.cons_append, List.nil_append] at hc ⊢
  refine Tri.of (N := 9) (args := [.pointer (some ⟨b, 0, none⟩)]) Try.func53 rfl rfl rfl ?_
  refine go ?_
  refine WO.callE (vs := [.pointer (some ⟨b, 0, none⟩)]) Try.func66 rfl rfl rfl rfl (dv_none b _ _ _ _ _ _ _ _ _ (RdS.all rfl)) ?_
  rintro v M ⟨rfl, rfl⟩
  refine go ?_
  refine W.if rfl (fun h => ?_) (fun h => ?_)
  · refine go ?_
    exact ⟨rfl, [_], ⟨Res.tmp rfl, trivial⟩, _, hc, by rw [if_pos h]; rfl, rfl⟩
  · refine go ?_
    refine WO.callE (vs := [.pointer (some ⟨b, 0 + 5, none⟩)]) Try.func69 rfl rfl rfl rfl (at_Load (x := d.ops) rfl) ?_
    rintro v M ⟨rfl, rfl⟩
    refine go ?_
    exact ⟨rfl, [_], ⟨Res.tmp rfl, trivial⟩, _, hc, by rw [if_neg h]; rfl, rfl⟩
theorem dv_Arm (b : Nat) (d : Dv) (n : Int) (R : List HP) (hn : n ≤ 9223372036854775807) : TriE Try.prog 47 #[.pointer (some ⟨b, 0, none⟩), .int .i64 n]
    (fun v M => M = DevH b (if d.kept.length = 0 then d else { d with arm := max (-1) n }) :: R) (DevH b d :: R) := by
  refine DevH.opens fun x h1 h2 h3 => ?_
  have hc := DevH.close (b := b) (R := R) x h1 h2 h3 (Ent.refl _)
  have hc2 := DevH.close (b := b) (d := { d with arm := max (-1) n }) (R := R) x h1 h2 h3 (Ent.refl _)
  obtain ⟨ka, kc, na, nc, wa, wc⟩ := x
  simp only [dvL, List.cons_append, List.nil_append] at hc hc2 ⊢
  refine Tri.of (N := 12) (args := [.pointer (some ⟨b, 0, none⟩), .int .i64 n]) Try.func47 rfl rfl rfl ?_
  refine go ?_
  refine WO.callE (vs := [.pointer (some ⟨b, 0, none⟩)]) Try.func66 rfl rfl rfl rfl (dv_none b _ _ _ _ _ _ _ _ _ (RdS.all rfl)) ?_
  rintro v M ⟨rfl, rfl⟩
  by_cases h : d.kept.length = 0
  · rw [decide_eq_true h, if_pos h]
    refine go ?_
    exact ⟨rfl, [], trivial, _, hc, rfl⟩
  · rw [decide_eq_false h, if_neg h]
    refine go ?_
    exact ⟨rfl, [], trivial, _, hc2, rfl⟩

theorem mem256 {l : List Byt} (h : ∀ s ∈ l, s.length = 256) {i : Nat} (hi : i < l.length) : (l.getD i []).length = 256 := h _ (getD_mem hi)
theorem getstr {l : List Byt} {i : Nat} (hi : i < l.length) : (l.map strV)[i]? = some (strV (l.getD i [])) := by simp [hi]
theorem dv_Read (b : Nat) (d : Dv) (n : Int) (R : List HP) (ok : d.Ok) :
    TriE Try.prog 40 #[.pointer (some ⟨b, 0, none⟩), .int .i64 n]
      (fun v M => ((d.read n).2 ≠ 0 ∧ v = .tuple #[.slice none 0 0, .int .i64 (d.read n).2] ∧ M = DevH b (d.read n).1 :: R) ∨
        ((d.read n).2 = 0 ∧ ∃ a c, v = .tuple #[.slice a 256 c, .int .i64 0] ∧ SomeA a 256 ∧ M = OS a c (d.now.getD n.toNat []) :: DevH b (d.read n).1 :: R)) (DevH b d :: R) := by
  refine DevH.opens fun x h1 h2 h3 => ?_
  have hc := DevH.close (b := b) (d := (d.read n).1) (R := R) x (by simpa [Dv.read] using h1) (by simpa [Dv.read] using h2) (by simpa [Dv.read] using h3) (Ent.refl _)
  have hcall := dv_call b x d (d.is n) R ok.arm
  obtain ⟨ka, kc, na, nc, wa, wc⟩ := x
  unfold Dv.read at hc ⊢
  generalize hdc : d.call (d.is n) = dc at hcall hc ⊢
  have k1 : dc.1.kept = d.kept := by rw [← hdc]; simp
  have k2 : dc.1.now = d.now := by rw [← hdc]; simp
  have k3 : dc.1.waits = d.waits := by rw [← hdc]; simp
  have hz : dc.2 = 0 → d.kept.length ≠ 0 ∧ d.is n = true := fun h => Dv.call_zero (by rw [hdc]; exact h)
  simp only [dvL, List.cons_append, List.nil_append, k1, k2, k3] at hcall hc ⊢
  refine Tri.of (N := 27) (args := [.pointer (some ⟨b, 0, none⟩), .int .i64 n]) Try.func40 rfl rfl rfl ?_
  refine go ?_
  refine WO.callE (vs := [.pointer (some ⟨b, 0, none⟩), .int .i64 n]) Try.func65 rfl rfl rfl rfl (dv_is b _ _ n _ _ _ _ _ _ _ (RdS.all rfl)) ?_
  rintro v M ⟨rfl, rfl⟩
  rw [show (decide (0 ≤ n) && decide (n < d.kept.length)) = d.is n from rfl]
  refine WO.callE (vs := [.pointer (some ⟨b, 0, none⟩), .bool (d.is n)]) Try.func64 rfl rfl rfl rfl hcall ?_
  rintro v M ⟨rfl, rfl⟩
  by_cases he : dc.2 = 0
  · rw [he]
    obtain ⟨hk, his⟩ := hz he
    have hn : 0 ≤ n ∧ n < d.kept.length := by simpa [Dv.is] using his
    have hnow := ok.now
    have hsz := ok.size
    have h256 := mem256 ok.n256 (i := n.toNat) (by omega)
    obtain ⟨nb, rfl⟩ := h2 (by omega)
    have hget := getstr (l := d.now) (i := n.toNat) (by omega)
    generalize d.now.getD n.toNat [] = s at h256 hget ⊢
    refine go ?_
    refine WO.sv rfl ?_
    refine SV.makeSlice rfl (m := 256) rfl (by decide) (by decide) ?_
    intro b1
    refine go ?_
    refine WO.sv rfl ?_
    refine SV.loadR n.toNat rfl (RdS.own tk h2 (by simp)) (by omega) hget ?_
    refine WO.sv rfl ?_
    refine SV.copyP rfl rfl SrcK.str (by simp [u8V, isCell]) (by simp) (.inl (Nat.le_refl _)) (l' := s.map u8V) ?_ (by simp [h256]) rfl ?_
    · rw [h256, Nat.min_self, Nat.mul_one, List.take_of_length_le (by simp [h256]), List.length_map, h256, List.drop_of_length_le (by simp), List.append_nil]
    refine go ?_
    refine ⟨rfl, [_, _], ⟨Res.tmp rfl, Res.tmp rfl, trivial⟩, OS (some ⟨b1, 0, none⟩) 256 s :: DevH b dc.1 :: R, ?_, .inr ⟨rfl, some ⟨b1, 0, none⟩, 256, rfl, fun _ => ⟨b1, rfl⟩, rfl⟩⟩
    refine Ent.trans (ent_own (E := 5) (sz := 1) (n := 256) (by simp [h256])) ?_
    unfold OS
    rw [h256]
    exact Ent.take tk hc
  · refine go ?_
    exact ⟨rfl, [_, _], ⟨Res.tmp rfl, Res.tmp rfl, trivial⟩, _, hc, .inl ⟨he, rfl, rfl⟩⟩
end Go.SL
