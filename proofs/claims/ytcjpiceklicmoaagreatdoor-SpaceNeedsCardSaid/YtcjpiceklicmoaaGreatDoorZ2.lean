/- Layer 7: a device: what its functions do, each walked once. -/
import Derived.Test.YtcjpiceklicmoaaGreatDoorSlI
import Derived.Test.YtcjpiceklicmoaaGreatDoorSlM
import Derived.Test.YtcjpiceklicmoaaGreatDoorZ1
namespace Go.SL
open Go.Proofs
set_option linter.unusedVariables false
set_option linter.unusedSimpArgs false
set_option maxRecDepth 10000
attribute [local irreducible] W WO SV OW SW Tri Ent Tk Has Src SrcK DA DB RdS Own

theorem sl_CloneStr (a : Option Addr) (n c : Nat) (xs : List Byt) (L : List HP) (hn : n ≤ 1000000) (r : RdS 1 a n (xs.map strV) L) :
    TriE Tryz.prog 59 #[.slice a n c] (fun v M => ∃ a' c', v = .slice a' n c' ∧ SomeA a' n ∧ M = Own 9 1 (.slice a' n c') n (xs.map strV) :: L) L := by
  refine Tri.of (N := 8) (args := [.slice a n c]) Tryz.func59 rfl rfl rfl ?_
  cases a with
  | none =>
    have h0 : n = 0 := Classical.byContradiction fun h0 => by obtain ⟨b, off, e⟩ := r.at h0; cases e
    subst h0
    have hx : xs = [] := by have := r.len; simpa using this
    subst hx
    refine go ?_
    exact ⟨rfl, [_], ⟨Res.tmp rfl, trivial⟩, _, Ent.ownNil (Ent.refl _), none, 0, rfl, fun h => absurd rfl h, rfl⟩
  | some a =>
    refine go ?_
    refine WO.sv rfl ?_
    refine SV.lit0 ?_
    intro b1
    refine go ?_
    refine WO.ent (ent_own (sz := 1) (n := 0) rfl) ?_
    refine WO.sv rfl ?_
    refine SV.append rfl rfl rfl tk (RdS.src r) (by rw [r.len]) (by simp [strV, isCell]) (by omega) rfl ?_
    intro a' c' ha'
    rw [Nat.zero_add, List.nil_append] at *
    refine go ?_
    exact ⟨rfl, [_], ⟨Res.tmp rfl, trivial⟩, _, ent, a', c', rfl, ha', rfl⟩
theorem sl_CloneWr (a : Option Addr) (n c : Nat) (xs : List (Nat × Byt)) (L : List HP) (hn : n ≤ 1000000) (r : RdS 2 a n (xs.flatMap wrV) L) :
    TriE Tryz.prog 168 #[.slice a n c] (fun v M => ∃ a' c', v = .slice a' n c' ∧ SomeA a' n ∧ M = Own 187 2 (.slice a' n c') n (xs.flatMap wrV) :: L) L := by
  refine Tri.of (N := 8) (args := [.slice a n c]) Tryz.func168 rfl rfl rfl ?_
  cases a with
  | none =>
    have h0 : n = 0 := Classical.byContradiction fun h0 => by obtain ⟨b, off, e⟩ := r.at h0; cases e
    subst h0
    have hx : xs = [] := by have := r.len; rw [flat_len (n := 2) (fun _ => rfl)] at this; cases xs with | nil => rfl | cons x l => simp at this
    subst hx
    refine go ?_
    exact ⟨rfl, [_], ⟨Res.tmp rfl, trivial⟩, _, Ent.ownNil (Ent.refl _), none, 0, rfl, fun h => absurd rfl h, rfl⟩
  | some a =>
    refine go ?_
    refine WO.sv rfl ?_
    refine SV.lit0 ?_
    intro b1
    refine go ?_
    refine WO.ent (ent_own (sz := 2) (n := 0) rfl) ?_
    refine WO.sv rfl ?_
    refine SV.append rfl rfl rfl tk (RdS.src r) (by rw [r.len]) (by simp only [List.all_flatMap]; simp [wrV, strV, isCell]) (by omega) rfl ?_
    intro a' c' ha'
    rw [Nat.zero_add, List.nil_append] at *
    refine go ?_
    exact ⟨rfl, [_], ⟨Res.tmp rfl, trivial⟩, _, ent, a', c', rfl, ha', rfl⟩

theorem DevH.close {b : Nat} {d : Dv} {L R : List HP} (x : DvX) (h1 : SomeA x.1 d.kept.length) (h2 : SomeA x.2.2.1 d.now.length) (h3 : SomeA x.2.2.2.2.1 d.waits.length) (e : Ent L (dvL b x d ++ R)) : Ent L (DevH b d :: R) :=
  Ent.closeI (p := fun x : DvX => SomeA x.1 d.kept.length ∧ SomeA x.2.2.1 d.now.length ∧ SomeA x.2.2.2.2.1 d.waits.length) x ⟨h1, h2, h3⟩ e
theorem DevH.opens {P : Program} {g : FuncId} {args : Array Value} {K : Value → List HP → Prop} {b : Nat} {d : Dv} {R : List HP}
    (h : ∀ x : DvX, SomeA x.1 d.kept.length → SomeA x.2.2.1 d.now.length → SomeA x.2.2.2.2.1 d.waits.length → Tri P g args K (dvL b x d ++ R)) : Tri P g args K (DevH b d :: R) :=
  Tri.openI (p := fun x : DvX => SomeA x.1 d.kept.length ∧ SomeA x.2.2.1 d.now.length ∧ SomeA x.2.2.2.2.1 d.waits.length) fun x hx => h x hx.1 hx.2.1 hx.2.2

def zero256 : Byt := List.replicate 256 0
def Dv.new (n : Nat) : Dv := ⟨List.replicate n zero256, List.replicate n zero256, [], -1, false, 0⟩
theorem Dv.new_ok {n : Nat} (h : n ≤ 4096) : (Dv.new n).Ok :=
  ⟨by simp [Dv.new], by simp [Dv.new]; exact h, fun s hs => by rw [List.mem_replicate.1 hs |>.2]; simp [zero256], fun s hs => by rw [List.mem_replicate.1 hs |>.2]; simp [zero256], fun w hw => (by cases hw), by simp [Dv.new], rfl⟩
theorem dv_New (n : Int) (L : List HP) (h1 : 1 ≤ n) (h2 : n ≤ 4096) :
    TriE Tryz.prog 27 #[.int .i64 n] (fun v M => ∃ b, v = .tuple #[.pointer (some ⟨b, 0, none⟩), .int .i64 0] ∧ M = DevH b (Dv.new n.toNat) :: L) L := by
  obtain ⟨m, rfl⟩ : ∃ m : Nat, n = m := ⟨n.toNat, by omega⟩
  refine Tri.of (N := 29) (args := [.int .i64 m]) Tryz.func27 rfl rfl rfl ?_
  refine go ?_
  refine WO.sv rfl ?_
  refine SV.makeSlice rfl (m := 256) rfl (by decide) (by decide) ?_
  intro b1
  refine WO.sv rfl ?_
  refine SV.toStr (bs := zero256) rfl (by simp) ?_ ?_
  · rw [lsub_eq, List.drop_zero, List.take_of_length_le (by simp), zero256, List.map_replicate]; rfl
  refine go ?_
  refine WO.sv rfl ?_
  refine SV.lit rfl rfl rfl parts rfl nl ?_
  intro b2
  refine go ?_
  refine WO.callE (vs := [.slice (some ⟨b2, 0, none⟩) 1 1, .int .i64 m]) Tryz.func58 rfl rfl rfl rfl (sl_Repeat b2 1 m zero256 _ (by omega) (by omega) (RdS.all rfl)) ?_
  rintro v M ⟨b3, rfl, rfl⟩
  refine go ?_
  intro b4
  refine go ?_
  have hm : m ≠ 0 := by omega
  have e0 : List.replicate m (strV zero256) = (List.replicate m zero256).map strV := by rw [List.map_replicate]
  rw [e0]
  refine WO.callE (vs := [.slice (some ⟨b3, 0, none⟩) m m]) Tryz.func59 rfl rfl rfl rfl (sl_CloneStr (some ⟨b3, 0, none⟩) m m (List.replicate m zero256) _ (by omega) (RdS.cons (RdS.own tk (fun _ => ⟨b3, rfl⟩) (by simp)))) ?_
  rintro v M ⟨a5, c5, rfl, h5, rfl⟩
  refine go ?_
  refine ⟨rfl, [_, _], ⟨Res.tmp rfl, Res.tmp rfl, trivial⟩, DevH b4 (Dv.new m) :: L, ?_, b4, rfl, by rw [Int.toNat_natCast]⟩
  refine DevH.close (some ⟨b3, 0, none⟩, m, a5, c5, none, 0) (fun _ => ⟨b3, rfl⟩) (by simpa [Dv.new] using h5) (fun h => absurd rfl h) ?_
  simp only [dvL, Dv.new, List.length_replicate, List.cons_append, List.nil_append]
  refine Ent.take tk (Ent.take tk (Ent.take tk ?_))
  exact Ent.ownNil ent
theorem dv_NewBad (n : Int) (L : List HP) (h : n < 1 ∨ 4096 < n) :
    TriE Tryz.prog 27 #[.int .i64 n] (fun v M => v = .tuple #[.pointer none, .int .i64 2] ∧ M = L) L := by
  refine Tri.of (N := 29) (args := [.int .i64 n]) Tryz.func27 rfl rfl rfl ?_
  by_cases h1 : n < 1
  · refine go ?_
    exact ⟨rfl, [_, _], ⟨Res.tmp rfl, Res.tmp rfl, trivial⟩, _, ent, rfl, rfl⟩
  · refine go ?_
    exact ⟨rfl, [_, _], ⟨Res.tmp rfl, Res.tmp rfl, trivial⟩, _, ent, rfl, rfl⟩
end Go.SL

/- Layer 7: a device: what its functions do, each walked once (2). -/
namespace Go.SL
open Go.Proofs
set_option linter.unusedVariables false
set_option linter.unusedSimpArgs false
set_option maxRecDepth 10000
attribute [local irreducible] W WO SV OW SW Tri Ent Tk Has Src SrcK DA DB RdS Own

@[simp] theorem Dv.call_kept (d : Dv) (may : Bool) : (d.call may).1.kept = d.kept := by unfold Dv.call; split; rfl; split <;> rfl
@[simp] theorem Dv.call_now (d : Dv) (may : Bool) : (d.call may).1.now = d.now := by unfold Dv.call; split; rfl; split <;> rfl
@[simp] theorem Dv.call_waits (d : Dv) (may : Bool) : (d.call may).1.waits = d.waits := by unfold Dv.call; split; rfl; split <;> rfl
theorem Dv.call_err (d : Dv) (may : Bool) : (d.call may).2 = 0 ∨ (d.call may).2 = 1 ∨ (d.call may).2 = 2 ∨ (d.call may).2 = 17 := by
  unfold Dv.call; split; exact .inr (.inl rfl); split; exact .inr (.inr (.inl rfl)); dsimp only; split; exact .inr (.inr (.inr rfl)); exact .inl rfl
theorem Dv.call_zero {d : Dv} {may : Bool} (h : (d.call may).2 = 0) : d.kept.length ≠ 0 ∧ may = true := by
  unfold Dv.call at h
  split at h
  · cases h
  · split at h
    · cases h
    · rename_i h1 h2; exact ⟨h1, by simpa using h2⟩

/-- What a Read answers. -/
def Dv.read (d : Dv) (n : Int) : Dv × Int := d.call (d.is n)
def Dv.put (d : Dv) (n : Int) (s : Byt) : Dv × Int :=
  if (d.call (d.is n && decide (s.length = 256))).2 = 0 then ({ (d.call (d.is n && decide (s.length = 256))).1 with now := d.now.set n.toNat s, waits := d.waits ++ [(n.toNat, s)] }, 0) else d.call (d.is n && decide (s.length = 256))
def Dv.flush (d : Dv) : Dv × Int :=
  if (d.call true).2 = 0 then ({ (d.call true).1 with kept := flushN d.kept d.waits d.waits.length, waits := [] }, 0) else d.call true
def keepN (ks : List Int) (i : Nat) : Nat := (max 0 (min (ks.getD i 0) 256)).toNat
def fallN (kept : List Byt) (waits : List (Nat × Byt)) (ks : List Int) : Nat → List Byt
  | 0 => kept
  | i + 1 => (fallN kept waits ks i).set (waits.getD i (0, [])).1 ((waits.getD i (0, [])).2.take (keepN ks i) ++ ((fallN kept waits ks i).getD (waits.getD i (0, [])).1 []).drop (keepN ks i))
def Dv.fall (d : Dv) (ks : List Int) : Dv :=
  if d.kept.length = 0 then d else ⟨fallN d.kept d.waits ks d.waits.length, fallN d.kept d.waits ks d.waits.length, [], -1, false, d.ops⟩
theorem flushN_len (kept : List Byt) (waits : List (Nat × Byt)) : ∀ i, (flushN kept waits i).length = kept.length
  | 0 => rfl
  | i + 1 => by rw [flushN, List.length_set, flushN_len kept waits i]
theorem fallN_len (kept : List Byt) (waits : List (Nat × Byt)) (ks : List Int) : ∀ i, (fallN kept waits ks i).length = kept.length
  | 0 => rfl
  | i + 1 => by rw [fallN, List.length_set, fallN_len kept waits ks i]
theorem keepN_le (ks : List Int) (i : Nat) : keepN ks i ≤ 256 := by unfold keepN; omega
theorem getD_mem {α : Type} {l : List α} {i : Nat} {x : α} (h : i < l.length) : l.getD i x ∈ l := by
  rw [List.getD_eq_getElem?_getD, List.getElem?_eq_getElem h]; exact List.getElem_mem h
theorem flushN_256 {kept : List Byt} {waits : List (Nat × Byt)} (hk : ∀ s ∈ kept, s.length = 256) (hw : ∀ w ∈ waits, w.2.length = 256) : ∀ i, i ≤ waits.length → ∀ s ∈ flushN kept waits i, s.length = 256
  | 0, _, s, h => hk s h
  | i + 1, hi, s, h => by
    rcases List.mem_or_eq_of_mem_set h with h | h
    · exact flushN_256 hk hw i (by omega) s h
    · rw [h]; exact hw _ (getD_mem (by omega))
theorem fallN_256 {kept : List Byt} {waits : List (Nat × Byt)} {ks : List Int} (hk : ∀ s ∈ kept, s.length = 256) (hw : ∀ w ∈ waits, w.1 < kept.length ∧ w.2.length = 256) : ∀ i, i ≤ waits.length → ∀ s ∈ fallN kept waits ks i, s.length = 256
  | 0, _, s, h => hk s h
  | i + 1, hi, s, h => by
    rcases List.mem_or_eq_of_mem_set h with h | h
    · exact fallN_256 hk hw i (by omega) s h
    · have h1 := hw _ (getD_mem (l := waits) (i := i) (x := (0, [])) (by omega))
      have h2 := fallN_256 hk hw (ks := ks) i (by omega) _ (getD_mem (l := fallN kept waits ks i) (i := (waits.getD i (0, [])).1) (x := []) (by rw [fallN_len]; exact h1.1))
      have := keepN_le ks i
      rw [h, List.length_append, List.length_take, List.length_drop, h1.2, h2]; omega
theorem flushN_app (kept : List Byt) (ws : List (Nat × Byt)) (w : Nat × Byt) : ∀ i, i ≤ ws.length → flushN kept (ws ++ [w]) i = flushN kept ws i
  | 0, _ => rfl
  | i + 1, h => by
    rw [flushN, flushN, flushN_app kept ws w i (by omega)]
    have : (ws ++ [w]).getD i (0, []) = ws.getD i (0, []) := by
      rw [List.getD_eq_getElem?_getD, List.getD_eq_getElem?_getD, List.getElem?_append_left (by omega)]
    rw [this]
theorem flushN_snoc (kept : List Byt) (ws : List (Nat × Byt)) (w : Nat × Byt) : flushN kept (ws ++ [w]) (ws.length + 1) = (flushN kept ws ws.length).set w.1 w.2 := by
  rw [flushN, flushN_app _ _ _ _ (Nat.le_refl _)]
  have : (ws ++ [w]).getD ws.length (0, []) = w := by
    rw [List.getD_eq_getElem?_getD, List.getElem?_append_right (Nat.le_refl _)]; simp
  rw [this]
theorem Dv.put_ok {d : Dv} (ok : d.Ok) (n : Int) (s : Byt) : (d.put n s).1.Ok := by
  have h := Dv.call_ok ok (d.is n && decide (s.length = 256))
  unfold Dv.put
  split
  · rename_i h0
    have hm := (Dv.call_zero h0).2
    simp only [Bool.and_eq_true, decide_eq_true_eq, Dv.is] at hm
    refine ⟨?_, by simpa using ok.size, by simpa using ok.k256, ?_, ?_, h.arm, ?_⟩
    · simp only [List.length_set, Dv.call_kept]; exact ok.now
    · intro t ht
      rcases List.mem_or_eq_of_mem_set ht with q | q
      · exact ok.n256 _ q
      · rw [q]; exact hm.2
    · intro w hw
      simp only [Dv.call_kept]
      rcases List.mem_append.1 hw with q | q
      · exact ok.w256 _ q
      · rw [List.mem_singleton] at q
        subst q
        exact ⟨by dsimp only; omega, hm.2⟩
    · simp only [Dv.call_kept, List.length_append, List.length_singleton]
      rw [flushN_snoc, ok.sync]
  · exact h
theorem Dv.flush_ok {d : Dv} (ok : d.Ok) : d.flush.1.Ok := by
  have h := Dv.call_ok ok true
  unfold Dv.flush
  split
  · exact ⟨by simp only [flushN_len, Dv.call_now]; exact ok.now, by simp only [flushN_len]; exact ok.size, flushN_256 ok.k256 (fun w hw => (ok.w256 w hw).2) _ (Nat.le_refl _), by simpa using ok.n256, fun w hw => (by cases hw), h.arm, by simp only [List.length_nil, flushN, Dv.call_now]; exact ok.sync⟩
  · exact h
theorem Dv.fall_ok {d : Dv} (ok : d.Ok) (ks : List Int) : (d.fall ks).Ok := by
  unfold Dv.fall
  split
  · exact ok
  · exact ⟨rfl, by simp only [fallN_len]; exact ok.size, fallN_256 ok.k256 ok.w256 _ (Nat.le_refl _), fallN_256 ok.k256 ok.w256 _ (Nat.le_refl _), fun w hw => (by cases hw), by simp, rfl⟩

theorem dv_Down (b : Nat) (d : Dv) (R : List HP) : TriE Tryz.prog 73 #[.pointer (some ⟨b, 0, none⟩)]
    (fun v M => v = .bool (!decide (d.kept.length = 0) && d.down) ∧ M = DevH b d :: R) (DevH b d :: R) := by
  refine DevH.opens fun x h1 h2 h3 => ?_
  have hc := DevH.close (b := b) (R := R) x h1 h2 h3 (Ent.refl _)
  obtain ⟨ka, kc, na, nc, wa, wc⟩ := x
  simp only [dvL, List.cons_append, List.nil_append] at hc ⊢
  refine Tri.of (N := 12) (args := [.pointer (some ⟨b, 0, none⟩)]) Tryz.func73 rfl rfl rfl ?_
  refine go ?_
  refine WO.callE (vs := [.pointer (some ⟨b, 0, none⟩)]) Tryz.func123 rfl rfl rfl rfl (dv_none b _ _ _ _ _ _ _ _ _ (RdS.all rfl)) ?_
  rintro v M ⟨rfl, rfl⟩
  by_cases h : d.kept.length = 0
  · rw [decide_eq_true h]
    refine go ?_
    exact ⟨rfl, [_], ⟨Res.tmp rfl, trivial⟩, _, hc, rfl, rfl⟩
  · rw [decide_eq_false h]
    refine go ?_
    exact ⟨rfl, [_], ⟨Res.tmp rfl, trivial⟩, _, hc, rfl, rfl⟩
theorem dv_Arm (b : Nat) (d : Dv) (n : Int) (R : List HP) (hn : n ≤ 9223372036854775807) : TriE Tryz.prog 129 #[.pointer (some ⟨b, 0, none⟩), .int .i64 n]
    (fun v M => M = DevH b (if d.kept.length = 0 then d else { d with arm := max (-1) n }) :: R) (DevH b d :: R) := by
  refine DevH.opens fun x h1 h2 h3 => ?_
  have hc := DevH.close (b := b) (R := R) x h1 h2 h3 (Ent.refl _)
  have hc2 := DevH.close (b := b) (d := { d with arm := max (-1) n }) (R := R) x h1 h2 h3 (Ent.refl _)
  obtain ⟨ka, kc, na, nc, wa, wc⟩ := x
  simp only [dvL, List.cons_append, List.nil_append] at hc hc2 ⊢
  refine Tri.of (N := 12) (args := [.pointer (some ⟨b, 0, none⟩), .int .i64 n]) Tryz.func129 rfl rfl rfl ?_
  refine go ?_
  refine WO.callE (vs := [.pointer (some ⟨b, 0, none⟩)]) Tryz.func123 rfl rfl rfl rfl (dv_none b _ _ _ _ _ _ _ _ _ (RdS.all rfl)) ?_
  rintro v M ⟨rfl, rfl⟩
  by_cases h : d.kept.length = 0
  · rw [decide_eq_true h, if_pos h]
    refine go ?_
    exact ⟨rfl, [], trivial, _, hc, rfl⟩
  · rw [decide_eq_false h, if_neg h]
    refine go ?_
    exact ⟨rfl, [], trivial, _, hc2, rfl⟩

theorem mem256 {l : List Byt} (h : ∀ s ∈ l, s.length = 256) {i : Nat} (hi : i < l.length) : (l.getD i []).length = 256 := h _ (getD_mem hi)
theorem getstr {l : List Byt} {i : Nat} (hi : i < l.length) : (l.map strV)[i]? = some (strV (l.getD i [])) := by simp [hi]
theorem dv_Read (b : Nat) (d : Dv) (n : Int) (R : List HP) (ok : d.Ok) :
    TriE Tryz.prog 81 #[.pointer (some ⟨b, 0, none⟩), .int .i64 n]
      (fun v M => ((d.read n).2 ≠ 0 ∧ v = .tuple #[.slice none 0 0, .int .i64 (d.read n).2] ∧ M = DevH b (d.read n).1 :: R) ∨
        ((d.read n).2 = 0 ∧ ∃ a c, v = .tuple #[.slice a 256 c, .int .i64 0] ∧ SomeA a 256 ∧ M = OS a c (d.now.getD n.toNat []) :: DevH b (d.read n).1 :: R)) (DevH b d :: R) := by
  refine DevH.opens fun x h1 h2 h3 => ?_
  have hc := DevH.close (b := b) (d := (d.read n).1) (R := R) x (by simpa [Dv.read] using h1) (by simpa [Dv.read] using h2) (by simpa [Dv.read] using h3) (Ent.refl _)
  have hcall := dv_call b x d (d.is n) R ok.arm
  obtain ⟨ka, kc, na, nc, wa, wc⟩ := x
  unfold Dv.read at hc ⊢
  generalize hdc : d.call (d.is n) = dc at hcall hc ⊢
  have k1 : dc.1.kept = d.kept := by rw [← hdc]; simp
  have k2 : dc.1.now = d.now := by rw [← hdc]; simp
  have k3 : dc.1.waits = d.waits := by rw [← hdc]; simp
  have hz : dc.2 = 0 → d.kept.length ≠ 0 ∧ d.is n = true := fun h => Dv.call_zero (by rw [hdc]; exact h)
  simp only [dvL, List.cons_append, List.nil_append, k1, k2, k3] at hcall hc ⊢
  refine Tri.of (N := 27) (args := [.pointer (some ⟨b, 0, none⟩), .int .i64 n]) Tryz.func81 rfl rfl rfl ?_
  refine go ?_
  refine WO.callE (vs := [.pointer (some ⟨b, 0, none⟩), .int .i64 n]) Tryz.func138 rfl rfl rfl rfl (dv_is b _ _ n _ _ _ _ _ _ _ (RdS.all rfl)) ?_
  rintro v M ⟨rfl, rfl⟩
  rw [show (decide (0 ≤ n) && decide (n < d.kept.length)) = d.is n from rfl]
  refine WO.callE (vs := [.pointer (some ⟨b, 0, none⟩), .bool (d.is n)]) Tryz.func137 rfl rfl rfl rfl hcall ?_
  rintro v M ⟨rfl, rfl⟩
  by_cases he : dc.2 = 0
  · rw [he]
    obtain ⟨hk, his⟩ := hz he
    have hn : 0 ≤ n ∧ n < d.kept.length := by simpa [Dv.is] using his
    have hnow := ok.now
    have hsz := ok.size
    have h256 := mem256 ok.n256 (i := n.toNat) (by omega)
    obtain ⟨nb, rfl⟩ := h2 (by omega)
    have hget := getstr (l := d.now) (i := n.toNat) (by omega)
    generalize d.now.getD n.toNat [] = s at h256 hget ⊢
    refine go ?_
    refine WO.sv rfl ?_
    refine SV.makeSlice rfl (m := 256) rfl (by decide) (by decide) ?_
    intro b1
    refine go ?_
    refine WO.sv rfl ?_
    refine SV.loadR n.toNat rfl (RdS.own tk h2 (by simp)) (by omega) hget ?_
    refine WO.sv rfl ?_
    refine SV.copyP rfl rfl SrcK.str (by simp [u8V, isCell]) (by simp) (.inl (Nat.le_refl _)) (l' := s.map u8V) ?_ (by simp [h256]) rfl ?_
    · rw [h256, Nat.min_self, Nat.mul_one, List.take_of_length_le (by simp [h256]), List.length_map, h256, List.drop_of_length_le (by simp), List.append_nil]
    refine go ?_
    refine ⟨rfl, [_, _], ⟨Res.tmp rfl, Res.tmp rfl, trivial⟩, OS (some ⟨b1, 0, none⟩) 256 s :: DevH b dc.1 :: R, ?_, .inr ⟨rfl, some ⟨b1, 0, none⟩, 256, rfl, fun _ => ⟨b1, rfl⟩, rfl⟩⟩
    refine Ent.trans (ent_own (E := 5) (sz := 1) (n := 256) (by simp [h256])) ?_
    unfold OS
    rw [h256]
    exact Ent.take tk hc
  · refine go ?_
    exact ⟨rfl, [_, _], ⟨Res.tmp rfl, Res.tmp rfl, trivial⟩, _, hc, .inl ⟨he, rfl, rfl⟩⟩
end Go.SL

/- Layer 7: a device: Write, Flush, Fall, Clone, each walked once. -/
namespace Go.SL
open Go.Proofs
set_option linter.unusedVariables false
set_option linter.unusedSimpArgs false
set_option maxRecDepth 10000
attribute [local irreducible] W WO SV OW SW Tri Ent Tk Has Src SrcK DA DB RdS Own

theorem dv_Write (b : Nat) (d : Dv) (n : Int) (a : Option Addr) (c : Nat) (s : Byt) (R : List HP) (ok : d.Ok) (hls : s.length ≤ 9223372036854775807) (hw : d.waits.length ≤ 1000000) (r : RdS 1 a s.length (s.map u8V) R) :
    TriE Tryz.prog 103 #[.pointer (some ⟨b, 0, none⟩), .int .i64 n, .slice a s.length c] (fun v M => v = .int .i64 (d.put n s).2 ∧ M = DevH b (d.put n s).1 :: R) (DevH b d :: R) := by
  refine DevH.opens fun x h1 h2 h3 => ?_
  have hcall := dv_call b x d (d.is n && decide (s.length = 256)) R ok.arm
  have hc := DevH.close (b := b) (d := (d.call (d.is n && decide (s.length = 256))).1) (R := R) x (by simpa using h1) (by simpa using h2) (by simpa using h3) (Ent.refl _)
  obtain ⟨ka, kc, na, nc, wa, wc⟩ := x
  unfold Dv.put
  generalize hdc : d.call (d.is n && decide (s.length = 256)) = dc at hcall hc ⊢
  have k1 : dc.1.kept = d.kept := by rw [← hdc]; simp
  have k2 : dc.1.now = d.now := by rw [← hdc]; simp
  have k3 : dc.1.waits = d.waits := by rw [← hdc]; simp
  have hz : dc.2 = 0 → d.kept.length ≠ 0 ∧ (d.is n && decide (s.length = 256)) = true := fun h => Dv.call_zero (by rw [hdc]; exact h)
  simp only [dvL, List.cons_append, List.nil_append, k1, k2, k3] at hcall hc ⊢
  refine Tri.of (N := 47) (args := [.pointer (some ⟨b, 0, none⟩), .int .i64 n, .slice a s.length c]) Tryz.func103 rfl rfl rfl ?_
  refine go ?_
  refine WO.callE (vs := [.pointer (some ⟨b, 0, none⟩), .int .i64 n]) Tryz.func138 rfl rfl rfl rfl (dv_is b _ _ n _ _ _ _ _ _ _ (RdS.all rfl)) ?_
  rintro v M ⟨rfl, rfl⟩
  rw [show (decide (0 ≤ n) && decide (n < d.kept.length)) = d.is n from rfl]
  cases his : d.is n with
  | false =>
    rw [his, Bool.false_and] at hcall
    have he : dc.2 ≠ 0 := fun h => by have := (hz h).2; rw [his] at this; cases this
    rw [if_neg he]
    refine go ?_
    refine WO.callE (vs := [.pointer (some ⟨b, 0, none⟩), .bool false]) Tryz.func137 rfl rfl rfl rfl hcall ?_
    rintro v M ⟨rfl, rfl⟩
    refine go ?_
    exact ⟨rfl, [_], ⟨Res.tmp rfl, trivial⟩, _, hc, rfl, rfl⟩
  | true =>
    by_cases hs : s.length = 256
    · rw [his, decide_eq_true hs, Bool.true_and] at hcall
      refine go ?_
      refine WO.callE (vs := [.pointer (some ⟨b, 0, none⟩), .bool true]) Tryz.func137 rfl rfl rfl rfl hcall ?_
      rintro v M ⟨rfl, rfl⟩
      by_cases he : dc.2 = 0
      · rw [if_pos he]
        obtain ⟨hk, _⟩ := hz he
        have hn : 0 ≤ n ∧ n < d.kept.length := by simpa [Dv.is] using his
        have hnow := ok.now
        have hsz := ok.size
        obtain ⟨nb, rfl⟩ := h2 (by omega)
        refine go ?_
        refine W.drawA rfl (by kernel_rfl) (by kernel_rfl) ?_
        refine go ?_
        refine DA.q (v := strV s) rfl rfl (SV.toStrR rfl (RdS.cons (RdS.cons (RdS.cons (RdS.cons r)))) eqq) ?_
        refine go ?_
        refine DA.v rfl rfl rfl ?_
        refine SV.storeO n.toNat (v := strV s) (xs' := (d.now.set n.toNat s).map strV) rfl tk (by omega) rfl rfl (by simp; omega) (by rw [List.map_set]) ?_
        refine go ?_
        have hget : ((d.now.set n.toNat s).map strV)[n.toNat]? = some (strV s) := by
          rw [List.getElem?_map, List.getElem?_set]; simp; omega
        have hlw : (d.waits.flatMap wrV).length = d.waits.length * 2 := flat_len (n := 2) (fun _ => rfl) _
        refine W.drawC 18 #[0, 0, 2, 6, 14, 0, 0, 64, 192, 448, 0, 1984, 4032, 8160, 16352, 32766, 65535, 131071, 262143]
          [pts b (.cells [Value.slice ka d.kept.length kc, Value.slice (some ⟨nb, 0, none⟩) d.now.length nc, Value.slice wa d.waits.length wc, .int .i64 dc.1.arm, .bool dc.1.down, .int .i64 dc.1.ops].toArray 117), Own 9 1 (.slice (some ⟨nb, 0, none⟩) d.now.length nc) d.now.length ((d.now.set n.toNat s).map strV)]
          (Own 9 1 (.slice ka d.kept.length kc) d.kept.length (d.kept.map strV) :: Own 187 2 (.slice wa d.waits.length wc) d.waits.length (d.waits.flatMap wrV) :: R) rfl (by kernel_rfl) (by kernel_rfl) (by kernel_rfl) (by kernel_rfl) rfl rfl rfl ent ?_
        refine go ?_
        refine DB.q (v := strV s) rfl rfl hl ?_ ?_
        · refine SV.loadR n.toNat rfl (RdS.own (Tk.there Tk.here) h2 (by simp)) (by omega) hget ?_
          exact eqq
        refine go ?_
        refine DB.lit rfl rfl rfl parts rfl nl rfl rfl ?_
        intro b2
        refine DB.v rfl rfl rfl hl hl ?_
        refine SV.append rfl rfl rfl tk (RdS.src (RdS.all (sz := 2) (n := 1) rfl)) rfl rfl (by omega) rfl ?_
        intro wa' wc' hwa'
        refine ⟨[], Own 187 2 (.slice wa' (d.waits.length + 1) wc') (d.waits.length + 1) (d.waits.flatMap wrV ++ [Value.int .i64 n, strV s]) :: Own 9 1 (.slice ka d.kept.length kc) d.kept.length (d.kept.map strV) :: R, ent, ?_⟩
        refine go ?_
        refine ⟨pts b (.cells [Value.slice ka d.kept.length kc, Value.slice (some ⟨nb, 0, none⟩) d.now.length nc, Value.slice wa d.waits.length wc, .int .i64 dc.1.arm, .bool dc.1.down, .int .i64 dc.1.ops].toArray 117) :: Own 9 1 (.slice (some ⟨nb, 0, none⟩) d.now.length nc) d.now.length ((d.now.set n.toNat s).map strV) ::
          Own 187 2 (.slice wa' (d.waits.length + 1) wc') (d.waits.length + 1) (d.waits.flatMap wrV ++ [Value.int .i64 n, strV s]) :: Own 9 1 (.slice ka d.kept.length kc) d.kept.length (d.kept.map strV) :: R, ent, OW.sv ?_⟩
        refine SV.store rfl rfl cel rfl rfl rfl frz le0 nl ?_
        refine ⟨_, Ent.refl _, ?_⟩
        refine go ?_
        refine ⟨rfl, [_], ⟨Res.tmp rfl, trivial⟩, DevH b ⟨d.kept, d.now.set n.toNat s, d.waits ++ [(n.toNat, s)], dc.1.arm, dc.1.down, dc.1.ops⟩ :: R, ?_, ?_, rfl⟩
        · refine DevH.close (ka, kc, some ⟨nb, 0, none⟩, nc, wa', wc') h1 (fun _ => ⟨nb, rfl⟩) (fun _ => hwa' (by omega)) ?_
          have e1 : (d.waits ++ [(n.toNat, s)]).flatMap wrV = d.waits.flatMap wrV ++ [Value.int .i64 n, strV s] := by
            rw [List.flatMap_append]; simp [wrV, Int.toNat_of_nonneg hn.1]
          simp only [dvL, List.length_set, List.length_append, List.length_singleton, e1, List.cons_append, List.nil_append]
          exact ent
        · rw [he]; rfl
      · rw [if_neg he]
        refine go ?_
        exact ⟨rfl, [_], ⟨Res.tmp rfl, trivial⟩, _, hc, rfl, rfl⟩
    · rw [his, decide_eq_false hs, Bool.true_and] at hcall
      have he : dc.2 ≠ 0 := fun h => by have := (hz h).2; rw [his, decide_eq_false hs] at this; cases this
      rw [if_neg he]
      refine go ?_
      refine WO.callE (vs := [.pointer (some ⟨b, 0, none⟩), .bool false]) Tryz.func137 rfl rfl rfl rfl hcall ?_
      rintro v M ⟨rfl, rfl⟩
      refine go ?_
      exact ⟨rfl, [_], ⟨Res.tmp rfl, trivial⟩, _, hc, rfl, rfl⟩

theorem dv_Flush (b : Nat) (d : Dv) (R : List HP) (ok : d.Ok) (hw : d.waits.length ≤ 1000000000) :
    TriE Tryz.prog 104 #[.pointer (some ⟨b, 0, none⟩)] (fun v M => v = .int .i64 d.flush.2 ∧ M = DevH b d.flush.1 :: R) (DevH b d :: R) := by
  refine DevH.opens fun x h1 h2 h3 => ?_
  have hcall := dv_call b x d true R ok.arm
  have hc := DevH.close (b := b) (d := (d.call true).1) (R := R) x (by simpa using h1) (by simpa using h2) (by simpa using h3) (Ent.refl _)
  obtain ⟨ka, kc, na, nc, wa, wc⟩ := x
  unfold Dv.flush
  generalize hdc : d.call true = dc at hcall hc ⊢
  have k1 : dc.1.kept = d.kept := by rw [← hdc]; simp
  have k2 : dc.1.now = d.now := by rw [← hdc]; simp
  have k3 : dc.1.waits = d.waits := by rw [← hdc]; simp
  simp only [dvL, List.cons_append, List.nil_append, k1, k2, k3] at hcall hc ⊢
  refine Tri.of (N := 33) (args := [.pointer (some ⟨b, 0, none⟩)]) Tryz.func104 rfl rfl rfl ?_
  refine go ?_
  refine WO.callE (vs := [.pointer (some ⟨b, 0, none⟩), .bool true]) Tryz.func137 rfl rfl rfl rfl hcall ?_
  rintro v M ⟨rfl, rfl⟩
  by_cases he : dc.2 = 0
  · rw [if_pos he, he]
    refine go ?_
    have hlw : (d.waits.flatMap wrV).length = d.waits.length * 2 := flat_len (n := 2) (fun _ => rfl) _
    have hlk := flushN_len d.kept d.waits
    refine W.loopS 536838176 rfl (fun i : Nat => [(15, .int .i64 i)])
      (fun i => pts b (.cells [Value.slice ka d.kept.length kc, Value.slice na d.now.length nc, Value.slice wa d.waits.length wc, .int .i64 dc.1.arm, .bool dc.1.down, .int .i64 dc.1.ops].toArray 117) :: Own 9 1 (.slice ka d.kept.length kc) d.kept.length ((flushN d.kept d.waits i).map strV) ::
        Own 9 1 (.slice na d.now.length nc) d.now.length (d.now.map strV) :: Own 187 2 (.slice wa d.waits.length wc) d.waits.length (d.waits.flatMap wrV) :: R) (fun i => i ≤ d.waits.length) (fun i => d.waits.length - i) 0 ⟨rfl, trivial⟩ (Nat.zero_le _) (Ent.app (Ent.refl _)) ?_
    intro i bg hi
    refine go ?_
    refine WO.sv rfl ?_
    refine SV.lssC rfl rfl ?_ ?_
    · intro hlt
      have hi' : i < d.waits.length := by omega
      obtain ⟨wb, rfl⟩ := h3 (by omega)
      have hsub := flat_sub (g := wrV) (n := 2) (fun _ => rfl) d.waits i hi'
      have hwi := ok.w256 _ (List.getElem_mem hi')
      have hgd : d.waits.getD i (0, []) = d.waits[i] := by simp [hi']
      have hfl : flushN d.kept d.waits (i + 1) = (flushN d.kept d.waits i).set d.waits[i].1 d.waits[i].2 := by rw [flushN, hgd]
      generalize d.waits[i] = w at hsub hwi hgd hfl
      obtain ⟨wn, ws⟩ := w
      dsimp only at hwi hfl
      obtain ⟨kb, rfl⟩ := h1 (by omega)
      refine go ?_
      refine WO.sv rfl ?_
      refine SV.loadRN (i * 2) rfl (RdS.own tk h3 hlw) (by simp) (by decide) (by omega) hsub ?_
      refine go ?_
      intro b5
      refine go ?_
      refine W.drawA rfl (by kernel_rfl) (by kernel_rfl) ?_
      refine go ?_
      refine DA.v rfl rfl rfl ?_
      refine SV.storeO wn (v := strV ws) (xs' := (flushN d.kept d.waits (i + 1)).map strV) rfl tk (by omega) rfl rfl (by simp [hlk]; omega) (by rw [hfl, List.map_set]) ?_
      refine go ?_
      exact ⟨i + 1, ⟨rfl, trivial⟩, rfl, by omega, by omega, Ent.app ent⟩
    · intro hlt
      obtain rfl : i = d.waits.length := by omega
      refine go ?_
      refine ⟨rfl, [_], ⟨Res.tmp rfl, trivial⟩, DevH b ⟨flushN d.kept d.waits d.waits.length, d.now, [], dc.1.arm, dc.1.down, dc.1.ops⟩ :: R, ?_, rfl, rfl⟩
      refine DevH.close (ka, kc, na, nc, none, 0) (by rw [hlk]; exact h1) h2 (fun h => absurd rfl h) ?_
      simp only [dvL, hlk, List.cons_append, List.nil_append]
      exact Ent.take tk (Ent.take tk (Ent.take tk (Ent.ownNil ent)))
  · rw [if_neg he]
    refine go ?_
    exact ⟨rfl, [_], ⟨Res.tmp rfl, trivial⟩, _, hc, rfl, rfl⟩
end Go.SL

/- Layer 7: a device: Fall, Clone, each walked once. -/
namespace Go.SL
open Go.Proofs
set_option linter.unusedVariables false
set_option linter.unusedSimpArgs false
set_option maxRecDepth 10000
attribute [local irreducible] W WO SV OW SW Tri Ent Tk Has Src SrcK DA DB RdS Own

theorem fallN_succ {kept : List Byt} {waits : List (Nat × Byt)} {ks : List Int} {i wn : Nat} {ws : Byt} (h : waits.getD i (0, []) = (wn, ws)) :
    fallN kept waits ks (i + 1) = (fallN kept waits ks i).set wn (ws.take (keepN ks i) ++ ((fallN kept waits ks i).getD wn []).drop (keepN ks i)) := by rw [fallN, h]
theorem dv_Fall (b : Nat) (d : Dv) (a : Option Addr) (c : Nat) (ks : List Int) (R : List HP) (ok : d.Ok) (hw : d.waits.length ≤ 1000000000) (hks : ks.length ≤ 9223372036854775807) (r : RdS 1 a ks.length (ks.map (Value.int .i64)) R) :
    TriE Tryz.prog 67 #[.pointer (some ⟨b, 0, none⟩), .slice a ks.length c] (fun v M => M = DevH b (d.fall ks) :: R) (DevH b d :: R) := by
  refine DevH.opens fun x h1 h2 h3 => ?_
  have hc := DevH.close (b := b) (d := d) (R := R) x h1 h2 h3 (Ent.refl _)
  obtain ⟨ka, kc, na, nc, wa, wc⟩ := x
  simp only [dvL, List.cons_append, List.nil_append] at hc ⊢
  refine Tri.of (N := 69) (args := [.pointer (some ⟨b, 0, none⟩), .slice a ks.length c]) Tryz.func67 rfl rfl rfl ?_
  refine go ?_
  refine WO.callE (vs := [.pointer (some ⟨b, 0, none⟩)]) Tryz.func123 rfl rfl rfl rfl (dv_none b _ _ _ _ _ _ _ _ _ (RdS.all rfl)) ?_
  rintro v M ⟨rfl, rfl⟩
  by_cases hk0 : d.kept.length = 0
  · rw [decide_eq_true hk0]
    refine go ?_
    exact ⟨rfl, [], trivial, _, hc, by rw [Dv.fall, if_pos hk0]⟩
  rw [decide_eq_false hk0]
  refine go ?_
  have hlw : (d.waits.flatMap wrV).length = d.waits.length * 2 := flat_len (n := 2) (fun _ => rfl) _
  have hlk := fallN_len d.kept d.waits ks
  have hsz := ok.size
  refine W.loopS 4503599627354224 rfl (fun i : Nat => [(14, .int .i64 i)])
    (fun i => pts b (.cells [Value.slice ka d.kept.length kc, Value.slice na d.now.length nc, Value.slice wa d.waits.length wc, .int .i64 d.arm, .bool d.down, .int .i64 d.ops].toArray 117) :: Own 9 1 (.slice ka d.kept.length kc) d.kept.length ((fallN d.kept d.waits ks i).map strV) ::
      Own 9 1 (.slice na d.now.length nc) d.now.length (d.now.map strV) :: Own 187 2 (.slice wa d.waits.length wc) d.waits.length (d.waits.flatMap wrV) :: R) (fun i => i ≤ d.waits.length) (fun i => d.waits.length - i) 0 ⟨rfl, trivial⟩ (Nat.zero_le _) (Ent.app (Ent.refl _)) ?_
  intro i bg hi
  refine go ?_
  refine WO.sv rfl ?_
  refine SV.lssC rfl rfl ?_ ?_
  · intro hlt
    have hi' : i < d.waits.length := by omega
    obtain ⟨wb, rfl⟩ := h3 (by omega)
    have hsub := flat_sub (g := wrV) (n := 2) (fun _ => rfl) d.waits i hi'
    have hwi := ok.w256 _ (List.getElem_mem hi')
    have hgd : d.waits.getD i (0, []) = d.waits[i] := by simp [hi']
    generalize d.waits[i] = w at hsub hwi hgd
    obtain ⟨wn, ws⟩ := w
    dsimp only at hwi
    have hfl := fallN_succ (kept := d.kept) (ks := ks) hgd
    have hs0 := fallN_256 ok.k256 ok.w256 (ks := ks) i (by omega) _ (getD_mem (l := fallN d.kept d.waits ks i) (i := wn) (x := []) (by rw [hlk]; exact hwi.1))
    have hget := getstr (l := fallN d.kept d.waits ks i) (i := wn) (by rw [hlk]; exact hwi.1)
    generalize (fallN d.kept d.waits ks i).getD wn [] = s0 at hfl hs0 hget
    have hkn := keepN_le ks i
    obtain ⟨kb, rfl⟩ := h1 (by omega)
    refine go ?_
    refine WO.sv rfl ?_
    refine SV.loadRN (i * 2) rfl (RdS.own tk h3 hlw) (by simp) (by decide) (by omega) hsub ?_
    refine go ?_
    intro b5
    refine go ?_
    refine WO.sv rfl ?_
    refine SV.lss rfl rfl ?_
    refine go ?_
    refine W.cut 528482368 rfl (fun _ : Unit => [(6, .int .i64 (keepN ks i))]) (fun _ => pts b5 (.cells [Value.int .i64 wn, strV ws].toArray 187) :: pts b (.cells [Value.slice (some ⟨kb, 0, none⟩) d.kept.length kc, Value.slice na d.now.length nc, Value.slice (some ⟨wb, 0, none⟩) d.waits.length wc, .int .i64 d.arm, .bool d.down, .int .i64 d.ops].toArray 117) ::
      Own 9 1 (.slice (some ⟨kb, 0, none⟩) d.kept.length kc) d.kept.length ((fallN d.kept d.waits ks i).map strV) :: Own 9 1 (.slice na d.now.length nc) d.now.length (d.now.map strV) :: Own 187 2 (.slice (some ⟨wb, 0, none⟩) d.waits.length wc) d.waits.length (d.waits.flatMap wrV) :: R) (fun _ => True) ?_ ?_
    · refine W.if rfl (fun h => ?_) (fun h => ?_)
      · obtain ⟨ab, ao, rfl⟩ := r.at (by omega)
        refine go ?_
        refine WO.sv rfl ?_
        refine SV.loadR i rfl rds (by omega) (v := .int .i64 (ks.getD i 0)) (by simp [show i < ks.length by omega]) ?_
        refine go ?_
        exact ⟨(), ⟨by show Value.int .i64 _ = _; congr 1; unfold keepN; omega, trivial⟩, rfl, trivial, ent⟩
      · refine go ?_
        refine ⟨(), ⟨?_, trivial⟩, rfl, trivial, ent⟩
        have : keepN ks i = 0 := by unfold keepN; rw [List.getD_eq_getElem?_getD, List.getElem?_eq_none (by omega)]; rfl
        rw [this]; rfl
    rintro _ bg2 _
    refine go ?_
    refine W.drawA rfl (by kernel_rfl) (by kernel_rfl) ?_
    refine go ?_
    refine DA.q (v := strV (ws.take (keepN ks i))) rfl rfl (SV.cutStr rfl rfl (cutAt.of rfl rfl) (Nat.zero_le _) (by omega) (by simp) eqq) ?_
    refine go ?_
    refine DA.q (v := strV s0) rfl rfl (SV.loadR wn rfl (RdS.own tk h1 (by simp [hlk])) (by omega) hget eqq) ?_
    refine go ?_
    refine DA.q (v := strV (s0.drop (keepN ks i))) rfl rfl (SV.cutStr rfl (cutAt.of rfl rfl) rfl (by omega) (Nat.le_refl _) (by simp) eqq) ?_
    refine DA.q (v := strV (ws.take (keepN ks i) ++ s0.drop (keepN ks i))) rfl rfl (SV.concat rfl rfl (by simp; omega) eqq) ?_
    refine go ?_
    refine DA.v rfl rfl rfl ?_
    refine SV.storeO wn (v := strV (ws.take (keepN ks i) ++ s0.drop (keepN ks i))) (xs' := (fallN d.kept d.waits ks (i + 1)).map strV) rfl tk (by omega) rfl rfl (by simp [hlk]; omega) (by rw [hfl, List.map_set]) ?_
    refine go ?_
    exact ⟨i + 1, ⟨rfl, trivial⟩, rfl, by omega, by omega, Ent.app ent⟩
  · intro hlt
    obtain rfl : i = d.waits.length := by omega
    have h1' : SomeA ka (fallN d.kept d.waits ks d.waits.length).length := by rw [hlk]; exact h1
    refine go ?_
    refine WO.callE (vs := [.slice ka d.kept.length kc]) Tryz.func59 rfl rfl rfl rfl (sl_CloneStr ka d.kept.length kc (fallN d.kept d.waits ks d.waits.length) _ (by omega) (RdS.own tk h1 (by simp [hlk]))) ?_
    rintro v M ⟨a5, c5, rfl, h5, rfl⟩
    refine go ?_
    refine ⟨rfl, [], trivial, DevH b ⟨fallN d.kept d.waits ks d.waits.length, fallN d.kept d.waits ks d.waits.length, [], -1, false, d.ops⟩ :: R, ?_, by rw [Dv.fall, if_neg hk0]⟩
    refine DevH.close (ka, kc, a5, c5, none, 0) h1' (by rw [hlk]; exact h5) (fun h => absurd rfl h) ?_
    simp only [dvL, hlk, List.cons_append, List.nil_append]
    exact Ent.take tk (Ent.take tk (Ent.take tk (Ent.ownNil ent)))
end Go.SL

/- Layer 7: a device: Clone; devices that nobody made; the law's own functions. -/
namespace Go.SL
open Go.Proofs
set_option linter.unusedVariables false
set_option linter.unusedSimpArgs false
set_option maxRecDepth 10000
attribute [local irreducible] W WO SV OW SW Tri Ent Tk Has Src SrcK DA DB RdS Own

theorem dv_Clone (b : Nat) (d : Dv) (R : List HP) (ok : d.Ok) (hw : d.waits.length ≤ 1000000) :
    TriE Tryz.prog 128 #[.pointer (some ⟨b, 0, none⟩)]
      (fun v M => (d.kept.length = 0 ∧ v = .pointer none ∧ M = DevH b d :: R) ∨ (d.kept.length ≠ 0 ∧ ∃ b', v = .pointer (some ⟨b', 0, none⟩) ∧ M = DevH b' d :: DevH b d :: R)) (DevH b d :: R) := by
  refine DevH.opens fun x h1 h2 h3 => ?_
  have hc := DevH.close (b := b) (d := d) (R := R) x h1 h2 h3 (Ent.refl _)
  obtain ⟨ka, kc, na, nc, wa, wc⟩ := x
  simp only [dvL, List.cons_append, List.nil_append] at hc ⊢
  refine Tri.of (N := 40) (args := [.pointer (some ⟨b, 0, none⟩)]) Tryz.func128 rfl rfl rfl ?_
  refine go ?_
  refine WO.callE (vs := [.pointer (some ⟨b, 0, none⟩)]) Tryz.func123 rfl rfl rfl rfl (dv_none b _ _ _ _ _ _ _ _ _ (RdS.all rfl)) ?_
  rintro v M ⟨rfl, rfl⟩
  by_cases hk0 : d.kept.length = 0
  · rw [decide_eq_true hk0]
    refine go ?_
    exact ⟨rfl, [_], ⟨Res.tmp rfl, trivial⟩, _, hc, .inl ⟨hk0, rfl, rfl⟩⟩
  rw [decide_eq_false hk0]
  refine go ?_
  have hsz := ok.size
  have hnow := ok.now
  have hlw : (d.waits.flatMap wrV).length = d.waits.length * 2 := flat_len (n := 2) (fun _ => rfl) _
  refine W.drawB #[0, 1, 3, 7, 15, 0, 32, 96, 224, 511, 0, 1024, 3072, 7168, 16383, 0, 32768, 98304, 229376, 0, 524288, 1572864, 3670016, 8388607, 16777215, 33554431]
    [pts b (.cells [Value.slice ka d.kept.length kc, Value.slice na d.now.length nc, Value.slice wa d.waits.length wc, Value.int .i64 d.arm, Value.bool d.down, Value.int .i64 d.ops].toArray 117)]
    (Own 9 1 (.slice ka d.kept.length kc) d.kept.length (d.kept.map strV) :: Own 9 1 (.slice na d.now.length nc) d.now.length (d.now.map strV) :: Own 187 2 (.slice wa d.waits.length wc) d.waits.length (d.waits.flatMap wrV) :: R) rfl (by kernel_rfl) (by kernel_rfl) (by kernel_rfl) (Ent.refl _) ?_
  refine go ?_
  refine DB.callE (vs := [.slice ka d.kept.length kc]) Tryz.func59 rfl rfl rfl rfl hl hl (sl_CloneStr ka d.kept.length kc d.kept _ (by omega) (RdS.own tk h1 (by simp))) ?_
  rintro v M ⟨a1, c1, rfl, s1, rfl⟩
  refine ⟨[], Own 9 1 (.slice a1 d.kept.length c1) d.kept.length (d.kept.map strV) :: Own 9 1 (.slice ka d.kept.length kc) d.kept.length (d.kept.map strV) :: Own 9 1 (.slice na d.now.length nc) d.now.length (d.now.map strV) :: Own 187 2 (.slice wa d.waits.length wc) d.waits.length (d.waits.flatMap wrV) :: R, ent, ?_⟩
  refine go ?_
  refine DB.callE (vs := [.slice na d.now.length nc]) Tryz.func59 rfl rfl rfl rfl hl hl (sl_CloneStr na d.now.length nc d.now _ (by omega) (RdS.own (Tk.there (Tk.there (Tk.there Tk.here))) h2 (by simp))) ?_
  rintro v M ⟨a2, c2, rfl, s2, rfl⟩
  refine ⟨[], Own 9 1 (.slice a2 d.now.length c2) d.now.length (d.now.map strV) :: Own 9 1 (.slice a1 d.kept.length c1) d.kept.length (d.kept.map strV) :: Own 9 1 (.slice ka d.kept.length kc) d.kept.length (d.kept.map strV) :: Own 9 1 (.slice na d.now.length nc) d.now.length (d.now.map strV) :: Own 187 2 (.slice wa d.waits.length wc) d.waits.length (d.waits.flatMap wrV) :: R, ent, ?_⟩
  refine go ?_
  refine DB.callE (vs := [.slice wa d.waits.length wc]) Tryz.func168 rfl rfl rfl rfl hl hl (sl_CloneWr wa d.waits.length wc d.waits _ (by omega) (RdS.own tk h3 hlw)) ?_
  rintro v M ⟨a3, c3, rfl, s3, rfl⟩
  refine ⟨[], Own 187 2 (.slice a3 d.waits.length c3) d.waits.length (d.waits.flatMap wrV) :: Own 9 1 (.slice a2 d.now.length c2) d.now.length (d.now.map strV) :: Own 9 1 (.slice a1 d.kept.length c1) d.kept.length (d.kept.map strV) :: Own 9 1 (.slice ka d.kept.length kc) d.kept.length (d.kept.map strV) :: Own 9 1 (.slice na d.now.length nc) d.now.length (d.now.map strV) :: Own 187 2 (.slice wa d.waits.length wc) d.waits.length (d.waits.flatMap wrV) :: R, ent, ?_⟩
  refine go ?_
  refine DB.box (v := .agg (List.toArray _)) rfl cel rfl ?_
  intro b4
  refine go ?_
  refine ⟨pts b4 (.cells [Value.slice a1 d.kept.length c1, Value.slice a2 d.now.length c2, Value.slice a3 d.waits.length c3, Value.int .i64 d.arm, Value.bool d.down, Value.int .i64 0].toArray 117) :: Own 187 2 (.slice a3 d.waits.length c3) d.waits.length (d.waits.flatMap wrV) :: Own 9 1 (.slice a2 d.now.length c2) d.now.length (d.now.map strV) :: Own 9 1 (.slice a1 d.kept.length c1) d.kept.length (d.kept.map strV) :: pts b (.cells [Value.slice ka d.kept.length kc, Value.slice na d.now.length nc, Value.slice wa d.waits.length wc, Value.int .i64 d.arm, Value.bool d.down, Value.int .i64 d.ops].toArray 117) :: Own 9 1 (.slice ka d.kept.length kc) d.kept.length (d.kept.map strV) :: Own 9 1 (.slice na d.now.length nc) d.now.length (d.now.map strV) :: Own 187 2 (.slice wa d.waits.length wc) d.waits.length (d.waits.flatMap wrV) :: R, ent, ?_⟩
  refine go ?_
  refine W.drawB #[0, 1, 3, 0, 8, 24, 56, 127] [] (pts b4 (.cells [Value.slice a1 d.kept.length c1, Value.slice a2 d.now.length c2, Value.slice a3 d.waits.length c3, Value.int .i64 d.arm, Value.bool d.down, Value.int .i64 0].toArray 117) :: Own 187 2 (.slice a3 d.waits.length c3) d.waits.length (d.waits.flatMap wrV) :: Own 9 1 (.slice a2 d.now.length c2) d.now.length (d.now.map strV) :: Own 9 1 (.slice a1 d.kept.length c1) d.kept.length (d.kept.map strV) :: pts b (.cells [Value.slice ka d.kept.length kc, Value.slice na d.now.length nc, Value.slice wa d.waits.length wc, Value.int .i64 d.arm, Value.bool d.down, Value.int .i64 d.ops].toArray 117) :: Own 9 1 (.slice ka d.kept.length kc) d.kept.length (d.kept.map strV) :: Own 9 1 (.slice na d.now.length nc) d.now.length (d.now.map strV) :: Own 187 2 (.slice wa d.waits.length wc) d.waits.length (d.waits.flatMap wrV) :: R) rfl (by kernel_rfl) (by kernel_rfl) (by kernel_rfl) (Ent.refl _) ?_
  refine go ?_
  refine DB.callE (vs := [.pointer (some ⟨b, 0 + 5, none⟩)]) Tryz.func170 rfl rfl rfl rfl hl hl (at_Load (x := d.ops) rfl) ?_
  rintro v M ⟨rfl, rfl⟩
  refine ⟨[], _, Ent.refl _, ?_⟩
  refine DB.callE (vs := [.pointer (some ⟨b4, 0 + 5, none⟩), .int .i64 d.ops]) Tryz.func169 rfl rfl rfl rfl hl hl (at_Store b4 (0 + 5) _ _ _ d.ops _ (by simp) nl) ?_
  rintro v M rfl
  refine ⟨[], _, Ent.refl _, ?_⟩
  refine go ?_
  refine ⟨_, Ent.refl _, ?_⟩
  refine go ?_
  refine ⟨rfl, [_], ⟨Res.tmp rfl, trivial⟩, DevH b4 d :: DevH b d :: R, ?_, .inr ⟨hk0, b4, rfl, rfl⟩⟩
  refine DevH.close (a1, c1, a2, c2, a3, c3) s1 s2 s3 ?_
  simp only [dvL, List.cons_append, List.nil_append]
  exact Ent.take tk (Ent.take tk (Ent.take tk (Ent.take tk hc)))

/-! a device that nobody made -/
theorem dv_Down0 (R : List HP) : TriE Tryz.prog 73 #[.pointer none] (fun v M => v = .bool false ∧ M = R) R := by
  refine Tri.of (N := 12) (args := [.pointer none]) Tryz.func73 rfl rfl rfl ?_
  refine go ?_
  refine WO.callE (vs := [.pointer none]) Tryz.func123 rfl rfl rfl rfl (dv_none0 _) ?_
  rintro v M ⟨rfl, rfl⟩
  refine go ?_
  exact ⟨rfl, [_], ⟨Res.tmp rfl, trivial⟩, _, ent, rfl, rfl⟩
theorem dv_Arm0 (n : Int) (R : List HP) : TriE Tryz.prog 129 #[.pointer none, .int .i64 n] (fun v M => M = R) R := by
  refine Tri.of (N := 12) (args := [.pointer none, .int .i64 n]) Tryz.func129 rfl rfl rfl ?_
  refine go ?_
  refine WO.callE (vs := [.pointer none]) Tryz.func123 rfl rfl rfl rfl (dv_none0 _) ?_
  rintro v M ⟨rfl, rfl⟩
  refine go ?_
  exact ⟨rfl, [], trivial, _, ent, rfl⟩
theorem dv_Fall0 (x : Value) (R : List HP) : TriE Tryz.prog 67 #[.pointer none, x] (fun v M => M = R) R := by
  refine Tri.of (N := 69) (args := [.pointer none, x]) Tryz.func67 rfl rfl rfl ?_
  refine go ?_
  refine WO.callE (vs := [.pointer none]) Tryz.func123 rfl rfl rfl rfl (dv_none0 _) ?_
  rintro v M ⟨rfl, rfl⟩
  refine go ?_
  exact ⟨rfl, [], trivial, _, ent, rfl⟩
theorem dv_Clone0 (R : List HP) : TriE Tryz.prog 128 #[.pointer none] (fun v M => v = .pointer none ∧ M = R) R := by
  refine Tri.of (N := 40) (args := [.pointer none]) Tryz.func128 rfl rfl rfl ?_
  refine go ?_
  refine WO.callE (vs := [.pointer none]) Tryz.func123 rfl rfl rfl rfl (dv_none0 _) ?_
  rintro v M ⟨rfl, rfl⟩
  refine go ?_
  exact ⟨rfl, [_], ⟨Res.tmp rfl, trivial⟩, _, ent, rfl, rfl⟩
theorem dv_Read0 (n : Int) (R : List HP) : TriE Tryz.prog 81 #[.pointer none, .int .i64 n] (fun v M => v = .tuple #[.slice none 0 0, .int .i64 1] ∧ M = R) R := by
  refine Tri.of (N := 27) (args := [.pointer none, .int .i64 n]) Tryz.func81 rfl rfl rfl ?_
  refine go ?_
  refine WO.callE (vs := [.pointer none, .int .i64 n]) Tryz.func138 rfl rfl rfl rfl (dv_is0 n _) ?_
  rintro v M ⟨rfl, rfl⟩
  refine go ?_
  refine WO.callE (vs := [.pointer none, .bool false]) Tryz.func137 rfl rfl rfl rfl (dv_call0 false _) ?_
  rintro v M ⟨rfl, rfl⟩
  refine go ?_
  exact ⟨rfl, [_, _], ⟨Res.tmp rfl, Res.tmp rfl, trivial⟩, _, ent, rfl, rfl⟩
theorem dv_Write0 (n : Int) (x : Value) (R : List HP) : TriE Tryz.prog 103 #[.pointer none, .int .i64 n, x] (fun v M => v = .int .i64 1 ∧ M = R) R := by
  refine Tri.of (N := 47) (args := [.pointer none, .int .i64 n, x]) Tryz.func103 rfl rfl rfl ?_
  refine go ?_
  refine WO.callE (vs := [.pointer none, .int .i64 n]) Tryz.func138 rfl rfl rfl rfl (dv_is0 n _) ?_
  rintro v M ⟨rfl, rfl⟩
  refine go ?_
  refine WO.callE (vs := [.pointer none, .bool false]) Tryz.func137 rfl rfl rfl rfl (dv_call0 false _) ?_
  rintro v M ⟨rfl, rfl⟩
  refine go ?_
  exact ⟨rfl, [_], ⟨Res.tmp rfl, trivial⟩, _, ent, rfl, rfl⟩
theorem dv_Flush0 (R : List HP) : TriE Tryz.prog 104 #[.pointer none] (fun v M => v = .int .i64 1 ∧ M = R) R := by
  refine Tri.of (N := 33) (args := [.pointer none]) Tryz.func104 rfl rfl rfl ?_
  refine go ?_
  refine WO.callE (vs := [.pointer none, .bool true]) Tryz.func137 rfl rfl rfl rfl (dv_call0 true _) ?_
  rintro v M ⟨rfl, rfl⟩
  refine go ?_
  exact ⟨rfl, [_], ⟨Res.tmp rfl, trivial⟩, _, ent, rfl, rfl⟩

/-! a block all bytes of which are one -/
theorem list_fill {c : Value} (k m : Nat) (z : Value) (h : k < m) : (List.replicate k c ++ List.replicate (m - k) z).set k c = List.replicate (k + 1) c ++ List.replicate (m - (k + 1)) z := by
  rw [List.set_append_right _ _ (by simp), List.length_replicate, Nat.sub_self]
  obtain ⟨j, rfl⟩ : ∃ j, m = k + 1 + j := ⟨m - (k + 1), by omega⟩
  rw [show k + 1 + j - k = j + 1 by omega, show k + 1 + j - (k + 1) = j by omega, List.replicate_succ, List.set_cons_zero, List.replicate_succ', List.append_assoc]; rfl
end Go.SL

/- Layer 7: the law DevNobody, walked. -/
namespace Go.SL
open Go.Proofs
set_option linter.unusedVariables false
set_option linter.unusedSimpArgs false
set_option maxRecDepth 10000
attribute [local irreducible] W WO SV OW SW Tri Ent Tk Has Src SrcK DA DB RdS Own

def rep (c : UInt8) : Byt := List.replicate 256 c
theorem rep_len (c : UInt8) : (rep c).length = 256 := List.length_replicate
def o1 : Dv := ((Dv.new 2).put 0 (rep 1)).1
def o2 : Dv := o1.flush.1
def o3 : Dv := (o2.put 0 (rep 2)).1
def o4 : Dv := (o3.put 1 (rep 3)).1
def o5 : Dv := o4.fall [1]
theorem o_ok : o1.Ok ∧ o2.Ok ∧ o3.Ok ∧ o4.Ok ∧ o5.Ok := by
  have h1 : o1.Ok := Dv.put_ok (Dv.new_ok (by decide)) _ _
  have h2 : o2.Ok := Dv.flush_ok h1
  have h3 : o3.Ok := Dv.put_ok h2 _ _
  have h4 : o4.Ok := Dv.put_ok h3 _ _
  exact ⟨h1, h2, h3, h4, Dv.fall_ok h4 _⟩
theorem o_w : (Dv.new 2).waits.length ≤ 1000000 ∧ o1.waits.length ≤ 1000000 ∧ o2.waits.length ≤ 1000000 ∧ o3.waits.length ≤ 1000000 ∧ o4.waits.length ≤ 1000000 := by
  refine ⟨?_, ?_, ?_, ?_, ?_⟩ <;> decide +kernel
theorem o_r0 : (o5.read 0).2 = 0 := by decide +kernel
theorem o_r1 : ((o5.read 0).1.read 1).2 = 0 := by decide +kernel
theorem o_s0 : ∃ t, o5.now.getD (0 : Int).toNat [] = 2 :: 1 :: t := ⟨List.replicate 254 1, by decide +kernel⟩
theorem o_s1 : ∃ t, (o5.read 0).1.now.getD (1 : Int).toNat [] = 0 :: t := ⟨List.replicate 255 0, by decide +kernel⟩
theorem o_5 : (o5.now.getD (0 : Int).toNat []).length = 256 ∧ ((o5.read 0).1.now.getD (1 : Int).toNat []).length = 256 := by constructor <;> decide +kernel

def Dv.zero : Dv := ⟨[], [], [], 0, false, 0⟩
theorem Dv.zero_ok : Dv.zero.Ok := ⟨rfl, by decide, fun s h => (by cases h), fun s h => (by cases h), fun w h => (by cases h), by decide, rfl⟩
theorem DevH.zero (b : Nat) (L : List HP) : Ent (pts b (.cells [Value.slice none 0 0, Value.slice none 0 0, Value.slice none 0 0, Value.int .i64 0, Value.bool false, Value.int .i64 0].toArray 117) :: L) (DevH b Dv.zero :: L) :=
  DevH.close (none, 0, none, 0, none, 0) (fun h => absurd rfl h) (fun h => absurd rfl h) (fun h => absurd rfl h) (Ent.take tk (Ent.ownNil (Ent.ownNil (Ent.ownNil (Ent.refl _)))))
end Go.SL

/- Layer 7: the law DevNobody, walked. -/
namespace Go.SL
open Go.Proofs
set_option linter.unusedVariables false
set_option linter.unusedSimpArgs false
set_option maxRecDepth 10000
attribute [local irreducible] W WO SV OW SW Tri Ent Tk Has Src SrcK DA DB RdS Own

theorem dv_LenH (b : Nat) (d : Dv) (R : List HP) : TriE Tryz.prog 72 #[.pointer (some ⟨b, 0, none⟩)] (fun v M => v = .int .i64 d.kept.length ∧ M = DevH b d :: R) (DevH b d :: R) := by
  refine DevH.opens fun x h1 h2 h3 => ?_
  have hc := DevH.close (b := b) (R := R) x h1 h2 h3 (Ent.refl _)
  obtain ⟨ka, kc, na, nc, wa, wc⟩ := x
  simp only [dvL, List.cons_append, List.nil_append] at hc ⊢
  refine Tri.mono (dv_Len b d.kept.length kc ka _ _ _ _ _ _ (RdS.all rfl)) ?_
  rintro v L' ⟨M, e, rfl, rfl⟩
  exact ⟨_, Ent.trans e hc, rfl, rfl⟩

end Go.SL

/- Layer 9: a head is saved, walked. -/
namespace Go.SL
open Go.Proofs
set_option linter.unusedVariables false
set_option linter.unusedSimpArgs false
set_option maxRecDepth 10000
set_option maxHeartbeats 4000000
attribute [local irreducible] W WO SV OW SW Tri Ent Tk Has Src SrcK DA DB RdS Own DevH

def saveS (d : Dv) (h : Hd) : Dv × Int :=
  if d.kept.length = 0 then (d, 1) else if HdR h d.kept.length then (if (d.put ((h.gen % 2 : Nat) : Int) h.put).2 = 0 then (d.put ((h.gen % 2 : Nat) : Int) h.put).1.flush else d.put ((h.gen % 2 : Nat) : Int) h.put) else (d, 2)
theorem HdR.mono {h : Hd} {b c : Int} (r : HdR h b) (e : b ≤ c) : HdR h c := by unfold HdR at *; omega
theorem put_waits (d : Dv) (n : Int) (s : Byt) : (d.put n s).1.waits.length ≤ d.waits.length + 1 := by
  unfold Dv.put
  split
  · simp
  · unfold Dv.call
    split
    · simp
    · split <;> simp
theorem h9_Save (b : Nat) (d : Dv) (h : Hd) (R : List HP) (ok : d.Ok) (hw : d.waits.length ≤ 100000) (fit : h.Fit) :
    TriE Tryz.prog 119 #[.pointer (some ⟨b, 0, none⟩), .agg h.L.toArray] (fun v M => v = .int .i64 (saveS d h).2 ∧ M = DevH b (saveS d h).1 :: R) (DevH b d :: R) := by
  have hlen := ok.size
  have hRi := fun L => h9_Right h d.kept.length L (by omega)
  have hSl := fun L => h9_slot h L
  have hPu := fun L => h9_Put h L fit
  have hpl : h.put.length = 256 := sealB_len (h.enc_len fit)
  unfold saveS
  obtain ⟨g, e, p, s, l⟩ := h
  generalize hHp : Hd.put ⟨g, e, p, s, l⟩ = hp at *
  refine Tri.of (N := 33) (args := [.pointer (some ⟨b, 0, none⟩), .agg (hdL g e p s l).toArray]) Tryz.func119 rfl rfl rfl ?_
  refine go ?_
  intro b3
  refine go ?_
  refine WO.callE (vs := [.pointer (some ⟨b, 0, none⟩)]) Tryz.func72 rfl rfl rfl rfl (TriE.ent ent (dv_LenH b d (pts b3 (.cells (hdL g e p s l).toArray 137) :: R))) ?_
  rintro v M ⟨rfl, rfl⟩
  by_cases h0 : d.kept.length = 0
  · rw [if_pos h0]
    refine go ?_
    exact ⟨rfl, [_], ⟨Res.tmp rfl, trivial⟩, DevH b d :: R, ent, rfl, rfl⟩
  rw [if_neg h0]
  refine go ?_
  refine W.drawB #[0, 0, 2, 7, 15, 31] [pts b3 (.cells (hdL g e p s l).toArray 137)] (DevH b d :: R) rfl (by kernel_rfl) (by kernel_rfl) (by kernel_rfl) ent ?_
  refine go ?_
  refine DB.callE (vs := [.pointer (some ⟨b, 0, none⟩)]) Tryz.func72 rfl rfl rfl rfl hl hl (TriE.ent ent (dv_LenH b d (pts b3 (.cells (hdL g e p s l).toArray 137) :: R))) ?_
  rintro v M ⟨rfl, rfl⟩
  refine ⟨[], DevH b d :: R, ent, ?_⟩
  refine go ?_
  refine DB.callE (vs := [.agg (hdL g e p s l).toArray, .int .i64 d.kept.length]) Tryz.func118 rfl rfl rfl rfl hl hl (hRi _) ?_
  rintro v M ⟨rfl, rfl⟩
  refine ⟨[], DevH b d :: R, ent, ?_⟩
  by_cases hr : HdR ⟨g, e, p, s, l⟩ d.kept.length
  rotate_left
  · rw [decide_eq_false hr, if_neg hr]
    refine go ?_
    refine ⟨DevH b d :: R, ent, ?_⟩
    refine go ?_
    exact ⟨rfl, [_], ⟨Res.tmp rfl, trivial⟩, DevH b d :: R, ent, rfl, rfl⟩
  rw [decide_eq_true hr, if_pos hr]
  have hr2 := hr.mono (c := 4096) (by omega)
  refine go ?_
  refine ⟨DevH b d :: pts b3 (.cells (hdL g e p s l).toArray 137) :: R, ent, ?_⟩
  refine go ?_
  refine WO.callE (vs := [.agg (hdL g e p s l).toArray]) Tryz.func159 rfl rfl rfl rfl (hPu _) ?_
  rintro v M (⟨h, _⟩ | ⟨_, a5, c5, rfl, s5, rfl⟩)
  · exact absurd hr2 h
  refine go ?_
  refine WO.callE (vs := [.agg (hdL g e p s l).toArray]) Tryz.func127 rfl rfl rfl rfl (hSl _) ?_
  rintro v M ⟨rfl, rfl⟩
  refine go ?_
  refine WO.callE (vs := [.pointer (some ⟨b, 0, none⟩), .int .i64 ((g % 2 : Nat) : Int), .slice a5 hp.length c5]) Tryz.func103 rfl rfl rfl rfl
    (TriE.ent ent (dv_Write b d ((g % 2 : Nat) : Int) a5 c5 hp (OS a5 c5 hp :: pts b3 (.cells (hdL g e p s l).toArray 137) :: R) ok (by omega) (by omega) (OS.rd Tk.here s5))) ?_
  rintro v M ⟨rfl, rfl⟩
  have hpw := put_waits d ((g % 2 : Nat) : Int) hp
  have hpo := Dv.put_ok ok ((g % 2 : Nat) : Int) hp
  dsimp only
  generalize d.put ((g % 2 : Nat) : Int) hp = w at *
  by_cases hz : w.2 = 0
  rotate_left
  · rw [if_neg hz]
    refine go ?_
    exact ⟨rfl, [_], ⟨Res.tmp rfl, trivial⟩, DevH b w.1 :: R, ent, rfl, rfl⟩
  rw [if_pos hz]
  refine go ?_
  refine WO.callE (vs := [.pointer (some ⟨b, 0, none⟩)]) Tryz.func104 rfl rfl rfl rfl (dv_Flush b w.1 _ hpo (by omega)) ?_
  rintro v M ⟨rfl, rfl⟩
  refine go ?_
  exact ⟨rfl, [_], ⟨Res.tmp rfl, trivial⟩, DevH b w.1.flush.1 :: R, ent, rfl, rfl⟩
end Go.SL

/- Layer 9: a head is loaded, walked. -/
namespace Go.SL
open Go.Proofs
set_option linter.unusedVariables false
set_option linter.unusedSimpArgs false
set_option maxRecDepth 10000
set_option maxHeartbeats 4000000
attribute [local irreducible] W WO SV OW SW Tri Ent Tk Has Src SrcK DA DB RdS Own DevH

/-- The greater head, of a block that may be one. -/
def pickH (last : Hd) (s : Byt) (n : Nat) (len : Int) : Hd := if hdOk s len = true ∧ (hdOf s len).gen % 2 = n ∧ last.gen < (hdOf s len).gen then hdOf s len else last
def loadN (d : Dv) : Nat → Dv × Hd × Int
  | 0 => (d, Hd.zero, 0)
  | n + 1 => if (loadN d n).2.2 ≠ 0 then loadN d n else if ((loadN d n).1.read n).2 ≠ 0 then (((loadN d n).1.read n).1, Hd.zero, ((loadN d n).1.read n).2) else
      (((loadN d n).1.read n).1, pickH (loadN d n).2.1 ((loadN d n).1.now.getD n []) n d.kept.length, 0)
def loadS (d : Dv) : Dv × Hd × Int :=
  if d.kept.length = 0 then (d, Hd.zero, 1) else
    if (loadN d (min 2 d.kept.length)).2.2 ≠ 0 then loadN d (min 2 d.kept.length)
    else if (loadN d (min 2 d.kept.length)).2.1.gen = 0 then ((loadN d (min 2 d.kept.length)).1, Hd.zero, 13) else loadN d (min 2 d.kept.length)
theorem read_kept (d : Dv) (n : Int) : (d.read n).1.kept = d.kept ∧ (d.read n).1.now = d.now ∧ (d.read n).1.waits = d.waits := by
  unfold Dv.read Dv.call
  split
  · exact ⟨rfl, rfl, rfl⟩
  · split <;> exact ⟨rfl, rfl, rfl⟩
theorem pickH_ok {last : Hd} {s : Byt} {n : Nat} {len : Int} (h : last = Hd.zero ∨ 1 ≤ last.gen) : pickH last s n len = Hd.zero ∨ 1 ≤ (pickH last s n len).gen := by
  unfold pickH
  split
  · rename_i g; right; omega
  · exact h
theorem loadN_ok (d : Dv) (ok : d.Ok) : ∀ n, (loadN d n).1.Ok ∧ (loadN d n).1.kept = d.kept ∧ (loadN d n).1.now = d.now ∧ (loadN d n).1.waits = d.waits ∧ ((loadN d n).2.1 = Hd.zero ∨ 1 ≤ (loadN d n).2.1.gen)
  | 0 => ⟨ok, rfl, rfl, rfl, .inl rfl⟩
  | n + 1 => by
    obtain ⟨a, b, c, d', e⟩ := loadN_ok d ok n
    obtain ⟨r1, r2, r3⟩ := read_kept (loadN d n).1 n
    unfold loadN
    split
    · exact ⟨a, b, c, d', e⟩
    · split
      · exact ⟨Dv.call_ok a _, r1.trans b, r2.trans c, r3.trans d', .inl rfl⟩
      · exact ⟨Dv.call_ok a _, r1.trans b, r2.trans c, r3.trans d', pickH_ok e⟩
theorem loadN_err (d : Dv) : ∀ n, (loadN d n).2.2 ≠ 0 → (loadN d n).2.1 = Hd.zero
  | 0, h => absurd rfl h
  | n + 1, h => by
    unfold loadN at h ⊢
    split at h
    · rename_i g; rw [if_pos g]; exact loadN_err d n g
    · rename_i g
      rw [if_neg g]
      split at h
      · rename_i g2; rw [if_pos g2]
      · exact absurd rfl h
theorem h9_Load (b : Nat) (d : Dv) (R : List HP) (ok : d.Ok) :
    TriE Tryz.prog 74 #[.pointer (some ⟨b, 0, none⟩)] (fun v M => v = .tuple #[.agg (loadS d).2.1.L.toArray, .int .i64 (loadS d).2.2] ∧ M = DevH b (loadS d).1 :: R) (DevH b d :: R) := by
  have hlen := ok.size
  have hzl : Hd.zero.L = hdL 0 0 0 0 0 := rfl
  refine Tri.of (N := 58) (args := [.pointer (some ⟨b, 0, none⟩)]) Tryz.func74 rfl rfl rfl ?_
  refine go ?_
  intro b2
  refine go ?_
  refine WO.callE (vs := [.pointer (some ⟨b, 0, none⟩)]) Tryz.func72 rfl rfl rfl rfl (TriE.ent ent (dv_LenH b d (pts b2 (.cells (hdL 0 0 0 0 0).toArray 137) :: R))) ?_
  rintro v M ⟨rfl, rfl⟩
  by_cases h0 : d.kept.length = 0
  · have e : loadS d = (d, Hd.zero, 1) := by unfold loadS; rw [if_pos h0]
    rw [e]
    refine go ?_
    exact ⟨rfl, [_, _], ⟨Res.cell rfl le0 nl, Res.tmp rfl, trivial⟩, DevH b d :: R, ent, rfl, rfl⟩
  refine go ?_
  intro b4
  refine go ?_
  refine WO.callE (vs := [.pointer (some ⟨b, 0, none⟩)]) Tryz.func72 rfl rfl rfl rfl (TriE.ent ent (dv_LenH b d (pts b4 (.cells (hdL 0 0 0 0 0).toArray 137) :: pts b2 (.cells (hdL 0 0 0 0 0).toArray 137) :: R))) ?_
  rintro v M ⟨rfl, rfl⟩
  have hmin : min (2 : Int) (d.kept.length : Int) = ((min 2 d.kept.length : Nat) : Int) := by omega
  have hS : loadS d = if (loadN d (min 2 d.kept.length)).2.2 ≠ 0 then loadN d (min 2 d.kept.length)
    else if (loadN d (min 2 d.kept.length)).2.1.gen = 0 then ((loadN d (min 2 d.kept.length)).1, Hd.zero, 13) else loadN d (min 2 d.kept.length) := by unfold loadS; rw [if_neg h0]
  have hm2 : min 2 d.kept.length ≤ d.kept.length := by omega
  have hstay : ∀ n m, n ≤ m → (loadN d n).2.2 ≠ 0 → loadN d m = loadN d n := by
    intro n m h hne
    obtain ⟨k, rfl⟩ : ∃ k, m = n + k := ⟨m - n, by omega⟩
    clear h
    induction k with
    | zero => rfl
    | succ k ih =>
      rw [show n + (k + 1) = (n + k) + 1 by omega]
      conv => lhs; unfold loadN
      rw [ih, if_pos hne]
  refine go ?_
  refine W.loopS 9007199254610920 rfl (fun n : Nat => [(17, .int .i64 (n : Int))]) (fun n => DevH b (loadN d n).1 :: pts b4 (.cells (loadN d n).2.1.L.toArray 137) :: pts b2 (.cells (hdL 0 0 0 0 0).toArray 137) :: R) (fun n => n ≤ min 2 d.kept.length ∧ (loadN d n).2.2 = 0) (fun n => 2 - n) 0 ⟨rfl, trivial⟩ ⟨Nat.zero_le _, rfl⟩ (Ent.app ent) ?_
  rintro n bg ⟨hn, he⟩
  obtain ⟨k1, k2, k3, k4, k5⟩ := loadN_ok d ok n
  have hn1 : loadN d (n + 1) = if (loadN d n).2.2 ≠ 0 then loadN d n else if ((loadN d n).1.read n).2 ≠ 0 then (((loadN d n).1.read n).1, Hd.zero, ((loadN d n).1.read n).2) else
      (((loadN d n).1.read n).1, pickH (loadN d n).2.1 ((loadN d n).1.now.getD n []) n d.kept.length, 0) := rfl
  rw [if_neg (by rw [he]; simp)] at hn1
  by_cases hlt : n < min 2 d.kept.length
  · have hst := hstay (n + 1) (min 2 d.kept.length) (by omega)
    generalize loadN d n = x at *
    obtain ⟨x1, ⟨lg, lE, lp, lq, ll⟩, xe⟩ := x
    dsimp only at he k1 k2 k3 k4 k5 hn1
    dsimp only [Hd.L]
    obtain ⟨r1, r2, r3⟩ := read_kept x1 n
    have hR := fun R => dv_Read b x1 n R k1
    have hsl : (x1.now.getD n []).length = 256 := by
      have h1 : n < x1.now.length := by rw [k1.now, k2]; omega
      have : x1.now.getD n [] = x1.now[n] := by simp [h1]
      rw [this]
      exact k1.n256 _ (List.getElem_mem h1)
    rw [Int.toNat_natCast] at hR
    generalize x1.now.getD n [] = s at *
    generalize x1.read n = r at *
    refine go ?_
    refine WO.callE (vs := [.pointer (some ⟨b, 0, none⟩), .int .i64 n]) Tryz.func81 rfl rfl rfl rfl (hR _) ?_
    rintro v M (⟨g1, rfl, rfl⟩ | ⟨g1, a6, c6, rfl, s6, rfl⟩)
    · rw [if_pos g1] at hn1
      rw [hn1] at hst
      have hst := hst g1
      rw [hst, if_pos g1] at hS
      rw [hS]
      refine go ?_
      exact ⟨rfl, [_, _], ⟨Res.cell rfl le0 nl, Res.tmp rfl, trivial⟩, DevH b r.1 :: R, ent, rfl, rfl⟩
    · rw [if_neg (fun g => g g1)] at hn1
      rw [← hsl] at s6 ⊢
      refine go ?_
      refine WO.ownCap (E := 5) (sz := 1) (n := s.length) (xs := s.map u8V) (show Tk _ (OS a6 c6 s) _ from tk) fun hcap => ?_
      refine WO.callE (vs := [.pointer (some ⟨b, 0, none⟩)]) Tryz.func72 rfl rfl rfl rfl (TriE.ent ent (dv_LenH b r.1 (OS a6 c6 s :: pts b4 (.cells (hdL lg lE lp lq ll).toArray 137) :: pts b2 (.cells (hdL 0 0 0 0 0).toArray 137) :: R))) ?_
      rintro v M ⟨rfl, rfl⟩
      rw [r1, k2]
      refine WO.callE (vs := [.slice a6 s.length c6, .int .i64 d.kept.length]) Tryz.func126 rfl rfl rfl rfl (TriE.ent ent (h9_Of (OS a6 c6 s) a6 c6 s d.kept.length (DevH b r.1 :: pts b4 (.cells (hdL lg lE lp lq ll).toArray 137) :: pts b2 (.cells (hdL 0 0 0 0 0).toArray 137) :: R) (by omega) (by omega) hcap (OS.rd Tk.here s6))) ?_
      rintro v M ⟨rfl, rfl⟩
      have hslt := fun L => h9_slot (hdOf s d.kept.length) L
      have hpk : pickH ⟨lg, lE, lp, lq, ll⟩ s n d.kept.length = if hdOk s d.kept.length = true ∧ (hdOf s d.kept.length).gen % 2 = n ∧ lg < (hdOf s d.kept.length).gen then hdOf s d.kept.length else ⟨lg, lE, lp, lq, ll⟩ := rfl
      rw [hpk] at hn1
      generalize hdOf s d.kept.length = hh at *
      generalize hdOk s d.kept.length = hok at *
      obtain ⟨g, e, p, q, l⟩ := hh
      dsimp only at hn1
      dsimp only [Hd.L] at hslt ⊢
      refine go ?_
      intro b8
      cases hok with
      | false =>
        rw [if_neg (by simp)] at hn1
        refine go ?_
        refine ⟨n + 1, ⟨rfl, trivial⟩, rfl, ⟨by omega, by rw [hn1]⟩, by omega, Ent.app ?_⟩
        rw [hn1]
        exact ent
      | true =>
        refine go ?_
        refine WO.callE (vs := [.agg (hdL g e p q l).toArray]) Tryz.func127 rfl rfl rfl rfl (hslt _) ?_
        rintro v M ⟨rfl, rfl⟩
        by_cases hg : g % 2 = n
        · by_cases hgt : lg < g
          · rw [if_pos ⟨rfl, hg, hgt⟩] at hn1
            refine go ?_
            refine ⟨n + 1, ⟨rfl, trivial⟩, rfl, ⟨by omega, by rw [hn1]⟩, by omega, Ent.app ?_⟩
            rw [hn1]
            exact ent
          · rw [if_neg (fun z => hgt z.2.2)] at hn1
            refine go ?_
            refine ⟨n + 1, ⟨rfl, trivial⟩, rfl, ⟨by omega, by rw [hn1]⟩, by omega, Ent.app ?_⟩
            rw [hn1]
            exact ent
        · rw [if_neg (fun z => hg z.2.1)] at hn1
          refine go ?_
          refine ⟨n + 1, ⟨rfl, trivial⟩, rfl, ⟨by omega, by rw [hn1]⟩, by omega, Ent.app ?_⟩
          rw [hn1]
          exact ent
  · obtain rfl : n = min 2 d.kept.length := by omega
    rw [if_neg (by rw [he]; simp)] at hS
    rw [hS]
    clear hS hn1 hstay
    generalize loadN d (min 2 d.kept.length) = x at *
    obtain ⟨x1, ⟨lg, lE, lp, lq, ll⟩, xe⟩ := x
    dsimp only at he k1 k2 k3 k4 k5
    dsimp only [Hd.L]
    subst he
    by_cases hz : lg = 0
    · have hk := k5.resolve_right (by omega)
      injection hk with q1 q2 q3 q4 q5
      subst q1; subst q2; subst q3; subst q4; subst q5
      rw [if_pos rfl]
      refine go ?_
      refine WO.sv rfl ?_
      refine SV.eqlSt (xs := hdL 0 0 0 0 0) (ys := hdL 0 0 0 0 0) (b := true) rfl rfl rfl rfl rfl (sEq_self _) ?_
      refine go ?_
      exact ⟨rfl, [_, _], ⟨Res.cell rfl le0 nl, Res.tmp rfl, trivial⟩, DevH b x1 :: R, ent, rfl, rfl⟩
    · rw [if_neg hz]
      refine go ?_
      refine WO.sv rfl ?_
      refine SV.eqlSt (xs := hdL lg lE lp lq ll) (ys := hdL 0 0 0 0 0) (b := false) rfl rfl rfl rfl rfl (by
        have : ¬((lg : Int) = ((0 : Nat) : Int)) := by omega
        simp only [hdL, sEq]
        rw [decide_eq_false this, Bool.false_and]) ?_
      refine go ?_
      exact ⟨rfl, [_, _], ⟨Res.cell rfl le0 nl, Res.tmp rfl, trivial⟩, DevH b x1 :: R, ent, rfl, rfl⟩
end Go.SL

/- Layer 7: the law DevKeeps, walked. -/
namespace Go.SL
open Go.Proofs
set_option linter.unusedVariables false
set_option linter.unusedSimpArgs false
set_option maxRecDepth 10000
set_option maxHeartbeats 4000000
attribute [local irreducible] W WO SV OW SW Tri Ent Tk Has Src SrcK DA DB RdS Own

/-- No call falls. -/
structure Dv.Calm (d : Dv) : Prop where
  ok : d.Ok
  some : d.kept.length ≠ 0
  arm : d.arm = -1
  down : d.down = false
theorem Dv.call_calm {d : Dv} (h : d.Calm) : d.call true = ({ d with ops := IntKind.i64.wrap (d.ops + 1) }, 0) := by
  obtain ⟨_, h1, h2, h3⟩ := h
  obtain ⟨kept, now, waits, arm, down, ops⟩ := d
  simp only at h1 h2 h3
  subst h2; subst h3
  unfold Dv.call
  rw [if_neg h1, if_neg (by decide)]
  rfl
theorem Dv.is_of {d : Dv} {n : Int} (h : 0 ≤ n ∧ n < d.kept.length) : d.is n = true := by
  unfold Dv.is; rw [decide_eq_true h.1, decide_eq_true h.2]; rfl
theorem Dv.read_calm {d : Dv} (h : d.Calm) {n : Int} (hn : 0 ≤ n ∧ n < d.kept.length) : d.read n = ({ d with ops := IntKind.i64.wrap (d.ops + 1) }, 0) := by
  unfold Dv.read; rw [Dv.is_of hn, Dv.call_calm h]
theorem Dv.put_calm {d : Dv} (h : d.Calm) {n : Int} {s : Byt} (hn : 0 ≤ n ∧ n < d.kept.length) (hs : s.length = 256) :
    d.put n s = ({ d with ops := IntKind.i64.wrap (d.ops + 1), now := d.now.set n.toNat s, waits := d.waits ++ [(n.toNat, s)] }, 0) := by
  unfold Dv.put; rw [Dv.is_of hn, decide_eq_true hs, Bool.true_and, Dv.call_calm h, if_pos rfl]
theorem Dv.flush_calm {d : Dv} (h : d.Calm) : d.flush = ({ d with ops := IntKind.i64.wrap (d.ops + 1), kept := d.now, waits := [] }, 0) := by
  unfold Dv.flush; rw [Dv.call_calm h, if_pos rfl, h.ok.sync]
theorem Dv.Calm.ops {d : Dv} (h : d.Calm) (n : Int) : ({ d with ops := n } : Dv).Calm := ⟨⟨h.ok.now, h.ok.size, h.ok.k256, h.ok.n256, h.ok.w256, h.ok.arm, h.ok.sync⟩, h.some, h.arm, h.down⟩
theorem Dv.Calm.read {d : Dv} (h : d.Calm) {n : Int} (hn : 0 ≤ n ∧ n < d.kept.length) : (d.read n).1.Calm := by rw [Dv.read_calm h hn]; exact h.ops _
theorem Dv.Calm.put {d : Dv} (h : d.Calm) {n : Int} {s : Byt} (hn : 0 ≤ n ∧ n < d.kept.length) (hs : s.length = 256) : (d.put n s).1.Calm := by
  refine ⟨Dv.put_ok h.ok n s, ?_, ?_, ?_⟩ <;> rw [Dv.put_calm h hn hs]
  · exact h.some
  · exact h.arm
  · exact h.down
theorem Dv.Calm.flush {d : Dv} (h : d.Calm) : d.flush.1.Calm := by
  refine ⟨Dv.flush_ok h.ok, ?_, ?_, ?_⟩ <;> rw [Dv.flush_calm h]
  · show d.now.length ≠ 0; rw [h.ok.now]; exact h.some
  · exact h.arm
  · exact h.down
theorem Dv.Calm.new {n : Nat} (h : 1 ≤ n) (h' : n ≤ 4096) : (Dv.new n).Calm := ⟨Dv.new_ok h', by simp [Dv.new]; omega, rfl, rfl⟩
theorem Dv.Calm.fall {d : Dv} (ok : d.Ok) (h : d.kept.length ≠ 0) (ks : List Int) : (d.fall ks).Calm := by
  refine ⟨Dv.fall_ok ok ks, ?_, ?_, ?_⟩ <;> rw [Dv.fall, if_neg h]
  rw [fallN_len]; exact h
theorem getD_setL {l : List Byt} {k j : Nat} {u : Byt} (hk : k < l.length) : (l.set k u).getD j [] = if j = k then u else l.getD j [] := by
  simp only [List.getD_eq_getElem?_getD, List.getElem?_set]
  by_cases h : k = j
  · subst h; simp [hk]
  · have h' : ¬ j = k := fun e => h e.symm
    simp [h, h']
theorem getD_setB {l : List Bool} {k j : Nat} {u : Bool} (hk : k < l.length) : (l.set k u).getD j false = if j = k then u else l.getD j false := by
  simp only [List.getD_eq_getElem?_getD, List.getElem?_set]
  by_cases h : k = j
  · subst h; simp [hk]
  · have h' : ¬ j = k := fun e => h e.symm
    simp [h, h']
theorem rep_get (c : UInt8) {i : Nat} (h : i < 256) : ((rep c).map u8V)[i]? = some (u8V c) := by
  rw [rep, List.map_replicate, List.getElem?_replicate, if_pos h]
theorem rep_mem {c x : UInt8} (h : x ∈ rep c) : x = c := (List.mem_replicate.1 h).2
/-- Each byte behind a fall is of what was kept, or of a write. -/
theorem fall_bytes {P : Nat → UInt8 → Prop} {kept : List Byt} {waits : List (Nat × Byt)} {ks : List Int} (hk : ∀ k, ∀ c ∈ kept.getD k [], P k c) (hw : ∀ w ∈ waits, w.1 < kept.length ∧ ∀ c ∈ w.2, P w.1 c) :
    ∀ i, i ≤ waits.length → ∀ k, ∀ c ∈ (fallN kept waits ks i).getD k [], P k c
  | 0, _, k, c, h => hk k c h
  | i + 1, hi, k, c, h => by
    have ih := fall_bytes (ks := ks) hk hw i (by omega)
    have hm := hw _ (getD_mem (l := waits) (i := i) (x := (0, [])) (by omega))
    rw [fallN, getD_setL (by rw [fallN_len]; exact hm.1)] at h
    by_cases e : k = (waits.getD i (0, [])).1
    · rw [if_pos e] at h
      rw [e]
      rcases List.mem_append.1 h with q | q
      · exact hm.2 c (List.mem_of_mem_take q)
      · exact ih _ c (List.mem_of_mem_drop q)
    · rw [if_neg e] at h; exact ih k c h

structure ActD where
  kind : Int
  n : Int
  c : UInt8
  ka : Option Addr
  ks : List Int
  kc : Nat
/-- What is known of a step that came in. -/
def ActD.Okk (L : List HP) (x : ActD) : Prop := (-9223372036854775808 ≤ x.kind ∧ x.kind ≤ 9223372036854775807) ∧ (-9223372036854775808 ≤ x.n ∧ x.n ≤ 9223372036854775807) ∧ x.ks.length ≤ 9223372036854775807 ∧ RdS 1 x.ka x.ks.length (x.ks.map (Value.int .i64)) L
def actD (x : ActD) : List Value := [.int .i64 x.kind, .int .i64 x.n, u8V x.c, .slice x.ka x.ks.length x.kc]

end Go.SL

/- Layer 9: the plain law of heads; the law's known head. -/
namespace Go.SL
open Go.Proofs
set_option linter.unusedVariables false
set_option linter.unusedSimpArgs false
set_option maxRecDepth 10000
set_option maxHeartbeats 4000000
attribute [local irreducible] W WO SV OW SW Tri Ent Tk Has Src SrcK DA DB RdS Own DevH

/-- A head's block is read as it was. -/
theorem hd_back {h : Hd} (fit : h.Fit) {b : Int} (r : HdR h (min b 4096)) : hdOk h.put b = true ∧ hdOf h.put b = h := by
  have hel := h.enc_len fit
  have r' := r
  unfold HdR at r'
  have hlen : h.put.length = 256 := sealB_len hel
  have hok : rOK h.put = true := rOK_iff.2 ⟨hlen, sealB_ok hel fit.g fit.g mkR9⟩
  obtain ⟨q1, q2, q3⟩ := mkB_read 9 h.gen h.gen ([0, UInt8.ofNat h.enc.length] ++ (h.enc ++ (List.replicate (220 - h.enc.length) 0 ++ mkB 9 h.gen h.gen))) fit.g fit.g
  have c1 : rK h.put = 9 := by unfold rK; rw [hok]; exact q1
  have c2 : rE h.put = h.gen := by unfold rE; rw [hok]; exact q2
  have c3 : rQ h.put = h.gen := by unfold rQ; rw [hok]; exact q3
  have c4 : rB h.put = h.enc := by unfold rB; rw [hok]; exact sealB_opB hel
  have hp : h.pos.toNat < 18446744073709551616 := by have := fit.p; omega
  have hl : h.log.toNat < 18446744073709551616 := by have := fit.l; omega
  have hR : hdRead h.put = (h, 0) := by
    unfold hdRead
    rw [c2, c4]
    unfold Hd.enc
    dsimp only
    rw [LI.num_enc fit.e]
    dsimp only
    rw [LI.small_enc hp (by omega)]
    dsimp only
    rw [LI.num_enc fit.s]
    dsimp only
    have e4 := LI.small_enc hl (show h.log.toNat ≤ 4096 by omega) []
    rw [List.append_nil] at e4
    rw [e4]
    dsimp only [LI.fin]
    rw [Int.toNat_of_nonneg (by omega), Int.toNat_of_nonneg (by omega)]
    rfl
  have hO : hdOk h.put b = true := by
    unfold hdOk
    rw [hR, hok, c1, c2, c3, decide_eq_true (show (9 : UInt8) = 9 ∧ h.gen = h.gen from ⟨rfl, rfl⟩), decide_eq_true r]
    rfl
  refine ⟨hO, ?_⟩
  unfold hdOf
  rw [hO, hR]
  rfl
/-- A block of bytes 0 is none. -/
theorem hd_zero (b : Int) : hdOk zero256 b = false := by
  have : rOK zero256 = false := by
    unfold rOK opOk
    have h0 : mkR (zero256.getD 0 0) = false := by
      unfold zero256
      rw [List.getD_eq_getElem?_getD, List.getElem?_replicate]
      rfl
    rw [h0]
    simp
  unfold hdOk
  rw [this]
  rfl
/-- The greatest head of the first blocks. -/
def wantN (xs : Nat → Byt) (len : Int) : Nat → Hd
  | 0 => Hd.zero
  | n + 1 => pickH (wantN xs len n) (xs n) n len
theorem wantN_ok (xs : Nat → Byt) (len : Int) : ∀ n, wantN xs len n = Hd.zero ∨ 1 ≤ (wantN xs len n).gen
  | 0 => .inl rfl
  | n + 1 => pickH_ok (wantN_ok xs len n)
theorem loadN_calm {d : Dv} (c : d.Calm) : ∀ n, n ≤ d.kept.length → (loadN d n).1.Calm ∧ (loadN d n).1.kept = d.kept ∧ (loadN d n).1.now = d.now ∧ (loadN d n).1.waits = d.waits ∧ (loadN d n).2.1 = wantN (fun k => d.now.getD k []) d.kept.length n ∧ (loadN d n).2.2 = 0
  | 0, _ => ⟨c, rfl, rfl, rfl, rfl, rfl⟩
  | n + 1, h => by
    obtain ⟨a, b, e, w, f, g⟩ := loadN_calm c n (by omega)
    have hr := Dv.read_calm a (n := n) (by rw [b]; omega)
    have hc := Dv.Calm.read a (n := n) (by rw [b]; omega)
    unfold loadN
    rw [if_neg (by rw [g]; simp), if_neg (by rw [hr]; simp)]
    refine ⟨hc, ?_, ?_, ?_, ?_, rfl⟩
    · rw [hr]; exact b
    · rw [hr]; exact e
    · rw [hr]; exact w
    · show pickH _ _ _ _ = pickH _ _ _ _
      rw [f, e]
theorem loadS_calm {d : Dv} (c : d.Calm) (h : 2 ≤ d.kept.length) : (loadS d).1.Calm ∧ (loadS d).1.kept = d.kept ∧ (loadS d).1.now = d.now ∧ (loadS d).1.waits = d.waits ∧ (loadS d).2.1 = wantN (fun k => d.now.getD k []) d.kept.length 2 ∧
    (loadS d).2.2 = if (wantN (fun k => d.now.getD k []) d.kept.length 2).gen = 0 then 13 else 0 := by
  obtain ⟨a, b, e, w, f, g⟩ := loadN_calm c 2 h
  have hm : min 2 d.kept.length = 2 := by omega
  unfold loadS
  rw [if_neg c.some, hm, if_neg (by rw [g]; simp), f]
  have hw := wantN_ok (fun k => d.now.getD k []) d.kept.length 2
  split
  · rename_i hz
    rcases hw with hw | hw
    · exact ⟨a, b, e, w, hw.symm, rfl⟩
    · omega
  · exact ⟨a, b, e, w, f, g⟩
theorem saveS_calm {d : Dv} (c : d.Calm) {h : Hd} (fit : h.Fit) (r : HdR h d.kept.length) :
    (saveS d h).2 = 0 ∧ (saveS d h).1.Calm ∧ (saveS d h).1.kept = d.now.set (h.gen % 2) h.put ∧ (saveS d h).1.now = d.now.set (h.gen % 2) h.put ∧ (saveS d h).1.waits = [] := by
  have r' := r
  unfold HdR at r'
  have hpl : h.put.length = 256 := sealB_len (h.enc_len fit)
  have hin : (0 : Int) ≤ ((h.gen % 2 : Nat) : Int) ∧ ((h.gen % 2 : Nat) : Int) < d.kept.length := by omega
  have hp := Dv.put_calm c hin hpl
  have hc := Dv.Calm.put c hin hpl
  unfold saveS
  rw [if_neg c.some, if_pos r, if_pos (by rw [hp])]
  refine ⟨by rw [Dv.flush_calm hc], Dv.Calm.flush hc, ?_, ?_, ?_⟩
  · rw [Dv.flush_calm hc, hp]; simp only [Int.toNat_natCast]
  · rw [Dv.flush_calm hc, hp]; simp only [Int.toNat_natCast]
  · rw [Dv.flush_calm hc]
theorem saveS_not {d : Dv} (c : d.Calm) {h : Hd} (r : ¬HdR h d.kept.length) : saveS d h = (d, 2) := by
  unfold saveS
  rw [if_neg c.some, if_neg r]
def Hd.one : Hd := ⟨1, 1, 0, 1, 5⟩
end Go.SL

/- Layer 10 (journal): what a log does, in plain words. -/
namespace Go.SL
open Go.Proofs
set_option linter.unusedVariables false
set_option linter.unusedSimpArgs false
set_option linter.unusedSectionVars false
set_option maxRecDepth 10000
set_option maxHeartbeats 4000000
/-- A log: its head, where the next transaction is laid, its number, how many places are in use, what is not laid at its place, whether its device fell. -/
structure Lg where
  hd : Hd
  cur : Nat
  seq : Nat
  used : Nat
  wet : List (Int × Byt)
  down : Bool
def Lg.log (g : Lg) : Nat := g.hd.log.toNat
def Lg.place (g : Lg) (k : Nat) : Nat := 2 + (g.cur + k) % g.log
def Lg.home (g : Lg) (n : Nat) : Nat := 2 + g.log + n
structure LgOk (d : Dv) (g : Lg) : Prop where
  hd : HdR g.hd d.kept.length
  cur : g.cur < g.log
  seq : g.seq < 9223372036854775808
  used : g.used ≤ g.log
theorem LgOk.log {d : Dv} {g : Lg} (x : LgOk d g) : (g.log : Int) = g.hd.log ∧ 3 ≤ g.log ∧ g.log + 3 ≤ d.kept.length := by
  have := x.hd
  unfold HdR at this
  unfold Lg.log
  omega
theorem LgOk.place {d : Dv} {g : Lg} (x : LgOk d g) (k : Nat) : g.place k < d.kept.length := by
  have := x.log
  have := Nat.mod_lt (g.cur + k) (show 0 < g.log by omega)
  unfold Lg.place; omega
/-- How many blocks there are for use. -/
def homeN (d : Dv) (g : Lg) : Nat := d.kept.length - 2 - g.log
/-- A sealed block is laid at a place. -/
def sealP (d : Dv) (g : Lg) (k : Nat) (kind : UInt8) (b : Byt) : Dv × Int := d.put (g.place k : Nat) (sealB kind g.hd.epoch g.seq b)
/-- What stands in a sealed block at a place. -/
def openedP (d : Dv) (g : Lg) (k : Nat) (kind : UInt8) : Dv × Byt × Bool × Int :=
  if (d.read (g.place k : Nat)).2 ≠ 0 then ((d.read (g.place k : Nat)).1, [], false, (d.read (g.place k : Nat)).2)
  else ((d.read (g.place k : Nat)).1, rB (d.now.getD (g.place k) []), decide (rZ (d.now.getD (g.place k) []) = 0 ∧ rK (d.now.getD (g.place k) []) = kind ∧ rE (d.now.getD (g.place k) []) = g.hd.epoch ∧ rQ (d.now.getD (g.place k) []) = g.seq), 0)
abbrev Chs := List (Int × Byt)
/-- Whether changes may be done. -/
def nowBad (home : Nat) (c : Chs) (i : Nat) : Bool :=
  decide ((c.getD i (0, [])).1 < 0) || decide ((home : Int) ≤ (c.getD i (0, [])).1) || decide ((c.getD i (0, [])).1 ∈ (c.take i).map (·.1)) || decide ((c.getD i (0, [])).2.length ≠ 256)
def goodN (home : Nat) (c : Chs) : Nat → Bool
  | 0 => true
  | i + 1 => goodN home c i && !nowBad home c i
theorem goodN_false {home : Nat} {c : Chs} {i : Nat} (h : goodN home c i = false) : ∀ n, i ≤ n → goodN home c n = false := by
  intro n hn
  induction n with
  | zero => obtain rfl : i = 0 := by omega
            exact h
  | succ n ih =>
    by_cases e : i = n + 1
    · subst e; exact h
    · unfold goodN; rw [ih (by omega)]; rfl
def chsR (home : Nat) (c : Chs) : Bool := goodN home c c.length && (decide (1 ≤ c.length) && decide (c.length ≤ 70))
/-- The bytes that name a transaction's blocks. -/
def chB (x : Int × Byt) : Byt := [UInt8.ofNat (x.1.toNat / 256), UInt8.ofNat x.1.toNat, x.2.getD 0 0]
/-- Covered blocks are laid. -/
def layC (g : Lg) : Dv → Chs → Nat → Dv × Int
  | d, [], _ => (d, 0)
  | d, x :: c, i => if (d.put (g.place (1 + i) : Nat) (x.2.set 0 3)).2 ≠ 0 then d.put (g.place (1 + i) : Nat) (x.2.set 0 3) else layC g (d.put (g.place (1 + i) : Nat) (x.2.set 0 3)).1 c (i + 1)
/-- One after the other, as long as none fails. -/
def andD (r : Dv × Int) (k : Dv → Dv × Int) : Dv × Int := if r.2 ≠ 0 then r else k r.1
def layF (d : Dv) (g : Lg) (c : Chs) : Dv × Int :=
  andD (sealP d g 0 1 (c.flatMap chB)) fun d => andD (layC g d c 0) fun d => andD d.flush fun d => andD (sealP d g (1 + c.length) 2 []) fun d => d.flush
/-- The head of where the log is now is saved. -/
def Lg.next (g : Lg) (epoch : Nat) : Hd := ⟨g.hd.gen + 1, epoch, g.cur, g.seq, g.hd.log⟩
def saveP (d : Dv) (g : Lg) (epoch : Nat) : Dv × Lg × Int :=
  if (saveS d (g.next epoch)).2 = 0 then ((saveS d (g.next epoch)).1, { g with hd := g.next epoch }, 0) else ((saveS d (g.next epoch)).1, g, (saveS d (g.next epoch)).2)
/-- The blocks of a transaction, bare. -/
def barL (g : Lg) (b : Byt) : Dv → Nat → Nat → Chs → Dv × Option Chs × Int
  | d, 0, _, acc => (d, some acc, 0)
  | d, f + 1, i, acc =>
    if (d.read (g.place (1 + i) : Nat)).2 ≠ 0 then ((d.read (g.place (1 + i) : Nat)).1, none, (d.read (g.place (1 + i) : Nat)).2)
    else if (d.now.getD (g.place (1 + i)) []).getD 0 0 ≠ 3 then ((d.read (g.place (1 + i) : Nat)).1, none, 0)
    else barL g b (d.read (g.place (1 + i) : Nat)).1 f (i + 1) (acc ++ [((((b.getD (3 * i) 0).toNat * 256 + (b.getD (3 * i + 1) 0).toNat : Nat) : Int), (d.now.getD (g.place (1 + i)) []).set 0 (b.getD (3 * i + 2) 0))])
def oneP (d : Dv) (g : Lg) (places : Nat) : Dv × Option Chs × Int :=
  if (openedP d g 0 1).2.2.2 ≠ 0 ∨ (openedP d g 0 1).2.2.1 = false ∨ (openedP d g 0 1).2.1.length = 0 ∨ (openedP d g 0 1).2.1.length % 3 ≠ 0 ∨ places < (openedP d g 0 1).2.1.length / 3 + 2 then ((openedP d g 0 1).1, none, (openedP d g 0 1).2.2.2)
  else match barL g (openedP d g 0 1).2.1 (openedP d g 0 1).1 ((openedP d g 0 1).2.1.length / 3) 0 [] with
    | (d, none, e) => (d, none, e)
    | (d, some c, _) => if (openedP d g (1 + c.length) 2).2.2.2 ≠ 0 ∨ (openedP d g (1 + c.length) 2).2.2.1 = false ∨ (openedP d g (1 + c.length) 2).2.1.length ≠ 0 ∨ chsR (homeN d g) c = false then ((openedP d g (1 + c.length) 2).1, none, (openedP d g (1 + c.length) 2).2.2.2)
      else ((openedP d g (1 + c.length) 2).1, some c, 0)
/-- All transactions that are whole: so many more. -/
def readP : Nat → Dv → Lg → Nat → Chs → Dv × Lg × Option Chs × Int
  | 0, d, g, _, all => (d, g, some all, 0)
  | f + 1, d, g, p, all =>
    match oneP d g (g.log - p) with
    | (d, none, e) => if e ≠ 0 then (d, g, none, e) else (d, g, some all, 0)
    | (d, some c, _) => readP f d { g with cur := (g.cur + c.length + 2) % g.log, seq := g.seq + 1 } (p + c.length + 2) (all ++ c)
def redoC (g : Lg) : Dv → Chs → Dv × Int
  | d, [] => (d, 0)
  | d, x :: c => andD (d.put (g.home x.1.toNat : Nat) x.2) fun d => redoC g d c
def redoP (d : Dv) (g : Lg) (all : Chs) : Dv × Int := andD (redoC g d all) fun d => if all.length = 0 then (d, 0) else d.flush
def openLg (h : Hd) : Lg := ⟨h, h.pos.toNat, h.seq, 0, [], false⟩
/-- A log is opened. -/
def openP (d : Dv) : Dv × Option Lg × Int :=
  if (loadS d).2.2 ≠ 0 then ((loadS d).1, none, (loadS d).2.2)
  else match readP ((loadS d).2.1.log.toNat + 1) (loadS d).1 (openLg (loadS d).2.1) 0 [] with
    | (d, g, none, e) => (d, none, e)
    | (d, g, some all, _) => if (redoP d g all).2 ≠ 0 then ((redoP d g all).1, none, (redoP d g all).2)
      else if (saveP (redoP d g all).1 g (g.hd.epoch + 1)).2.2 ≠ 0 then ((saveP (redoP d g all).1 g (g.hd.epoch + 1)).1, none, (saveP (redoP d g all).1 g (g.hd.epoch + 1)).2.2)
      else ((saveP (redoP d g all).1 g (g.hd.epoch + 1)).1, some (saveP (redoP d g all).1 g (g.hd.epoch + 1)).2.1, 0)
end Go.SL

/- Layer 10 (journal): the log's small functions, walked. -/
namespace Go.SL
open Go.Proofs
set_option linter.unusedVariables false
set_option linter.unusedSimpArgs false
set_option linter.unusedSectionVars false
set_option maxRecDepth 10000
set_option maxHeartbeats 4000000
abbrev lgL (db : Nat) (g : Lg) (mb : Nat) : List Value := [.pointer (some ⟨db, 0, none⟩), .int .u64 g.hd.gen, .int .u64 g.hd.epoch, .int .i64 g.hd.pos, .int .u64 g.hd.seq, .int .i64 g.hd.log, .int .i64 g.cur, .int .u64 g.seq, .int .i64 g.used, .map (some mb), .bool g.down]
abbrev LgP (lb db : Nat) (g : Lg) (mb : Nat) : HP := pts lb (.cells (lgL db g mb).toArray 147)
/-- A log that was not made. -/
abbrev lg0 : List Value := [.pointer none, .int .u64 0, .int .u64 0, .int .i64 0, .int .u64 0, .int .i64 0, .int .i64 0, .int .u64 0, .int .i64 0, .map none, .bool false]
attribute [local irreducible] W WO SV OW SW Tri Ent Tk Has Src SrcK DA DB RdS Own
theorem jr_none (lb db mb : Nat) (g : Lg) (L : List HP) [r : Rd L lb (.cells (lgL db g mb).toArray 147 (0, 0))] :
    TriE Tryz.prog 108 #[.pointer (some ⟨lb, 0, none⟩)] (fun v M => v = .bool false ∧ M = L) L := by
  refine Tri.of (N := 12) (args := [.pointer (some ⟨lb, 0, none⟩)]) Tryz.func108 rfl rfl rfl ?_
  refine go ?_
  exact ⟨rfl, [_], ⟨Res.tmp rfl, trivial⟩, L, ent, rfl, rfl⟩
theorem jr_noneU (lb : Nat) (L : List HP) [r : Rd L lb (.cells lg0.toArray 147 (0, 0))] :
    TriE Tryz.prog 108 #[.pointer (some ⟨lb, 0, none⟩)] (fun v M => v = .bool true ∧ M = L) L := by
  refine Tri.of (N := 12) (args := [.pointer (some ⟨lb, 0, none⟩)]) Tryz.func108 rfl rfl rfl ?_
  refine go ?_
  exact ⟨rfl, [_], ⟨Res.tmp rfl, trivial⟩, L, ent, rfl, rfl⟩
theorem jr_noneN (L : List HP) :
    TriE Tryz.prog 108 #[.pointer none] (fun v M => v = .bool true ∧ M = L) L := by
  refine Tri.of (N := 12) (args := [.pointer none]) Tryz.func108 rfl rfl rfl ?_
  refine go ?_
  exact ⟨rfl, [_], ⟨Res.tmp rfl, trivial⟩, L, ent, rfl, rfl⟩
/-- A pointer to a log that was not made, or to none. -/
def Unm (x : Value) (L : List HP) : Prop := TriE Tryz.prog 108 #[x] (fun v M => v = .bool true ∧ M = L) L
theorem jr_check (lb db mb : Nat) (g : Lg) (L : List HP) [r : Rd L lb (.cells (lgL db g mb).toArray 147 (0, 0))] :
    TriE Tryz.prog 79 #[.pointer (some ⟨lb, 0, none⟩)] (fun v M => v = .int .i64 (if g.down then 17 else 0) ∧ M = L) L := by
  refine Tri.of (N := 11) (args := [.pointer (some ⟨lb, 0, none⟩)]) Tryz.func79 rfl rfl rfl ?_
  refine go ?_
  refine WO.callE (vs := [.pointer (some ⟨lb, 0, none⟩)]) Tryz.func108 rfl rfl rfl rfl (jr_none lb db mb g L) ?_
  rintro v M ⟨rfl, rfl⟩
  refine go ?_
  generalize g.down = dn at *
  cases dn with
  | true =>
    refine go ?_
    exact ⟨rfl, [_], ⟨Res.tmp rfl, trivial⟩, _, ent, rfl, rfl⟩
  | false =>
    refine go ?_
    exact ⟨rfl, [_], ⟨Res.tmp rfl, trivial⟩, _, ent, rfl, rfl⟩
theorem jr_checkU (x : Value) (L : List HP) (u : Unm x L) :
    TriE Tryz.prog 79 #[x] (fun v M => v = .int .i64 1 ∧ M = L) L := by
  refine Tri.of (N := 11) (args := [x]) Tryz.func79 rfl rfl rfl ?_
  refine go ?_
  refine WO.callE (vs := [x]) Tryz.func108 rfl rfl rfl rfl u ?_
  rintro v M ⟨rfl, rfl⟩
  refine go ?_
  exact ⟨rfl, [_], ⟨Res.tmp rfl, trivial⟩, _, ent, rfl, rfl⟩
theorem jr_HomeU (x : Value) (L : List HP) (u : Unm x L) :
    TriE Tryz.prog 65 #[x] (fun v M => v = .int .i64 0 ∧ M = L) L := by
  refine Tri.of (N := 17) (args := [x]) Tryz.func65 rfl rfl rfl ?_
  refine go ?_
  refine WO.callE (vs := [x]) Tryz.func108 rfl rfl rfl rfl u ?_
  rintro v M ⟨rfl, rfl⟩
  refine go ?_
  exact ⟨rfl, [_], ⟨Res.tmp rfl, trivial⟩, _, ent, rfl, rfl⟩
theorem jr_DownU (x : Value) (L : List HP) (u : Unm x L) :
    TriE Tryz.prog 57 #[x] (fun v M => v = .bool false ∧ M = L) L := by
  refine Tri.of (N := 12) (args := [x]) Tryz.func57 rfl rfl rfl ?_
  refine go ?_
  refine WO.callE (vs := [x]) Tryz.func108 rfl rfl rfl rfl u ?_
  rintro v M ⟨rfl, rfl⟩
  refine go ?_
  exact ⟨rfl, [_], ⟨Res.tmp rfl, trivial⟩, _, ent, rfl, rfl⟩
theorem jr_Down (lb db mb : Nat) (g : Lg) (L : List HP) [r : Rd L lb (.cells (lgL db g mb).toArray 147 (0, 0))] :
    TriE Tryz.prog 57 #[.pointer (some ⟨lb, 0, none⟩)] (fun v M => v = .bool g.down ∧ M = L) L := by
  refine Tri.of (N := 12) (args := [.pointer (some ⟨lb, 0, none⟩)]) Tryz.func57 rfl rfl rfl ?_
  refine go ?_
  refine WO.callE (vs := [.pointer (some ⟨lb, 0, none⟩)]) Tryz.func108 rfl rfl rfl rfl (jr_none lb db mb g L) ?_
  rintro v M ⟨rfl, rfl⟩
  refine go ?_
  exact ⟨rfl, [_], ⟨Res.tmp rfl, trivial⟩, _, ent, rfl, rfl⟩
end Go.SL

/- Layer 10 (journal): places, homes, sealed and opened blocks, the head saved; walked. -/
namespace Go.SL
open Go.Proofs
set_option linter.unusedVariables false
set_option linter.unusedSimpArgs false
set_option linter.unusedSectionVars false
set_option maxRecDepth 10000
set_option maxHeartbeats 4000000
attribute [local irreducible] W WO SV OW SW Tri Ent Tk Has Src SrcK DA DB RdS Own
theorem jr_Home (lb db mb : Nat) (g : Lg) (d : Dv) (R : List HP) (hk : d.kept.length ≤ 4096) (hg : 0 ≤ g.hd.log ∧ g.hd.log ≤ 4096) :
    TriE Tryz.prog 65 #[.pointer (some ⟨lb, 0, none⟩)] (fun v M => v = .int .i64 ((d.kept.length : Int) - 2 - g.hd.log) ∧ M = LgP lb db g mb :: DevH db d :: R) (LgP lb db g mb :: DevH db d :: R) := by
  refine Tri.of (N := 17) (args := [.pointer (some ⟨lb, 0, none⟩)]) Tryz.func65 rfl rfl rfl ?_
  refine go ?_
  refine WO.callE (vs := [.pointer (some ⟨lb, 0, none⟩)]) Tryz.func108 rfl rfl rfl rfl (jr_none lb db mb g _) ?_
  rintro v M ⟨rfl, rfl⟩
  refine go ?_
  refine W.drawB #[0, 1, 3, 7, 15, 31, 0, 64, 192, 448, 960, 2047, 4095] [LgP lb db g mb] (DevH db d :: R) rfl (by kernel_rfl) (by kernel_rfl) (by kernel_rfl) ent ?_
  refine go ?_
  refine DB.callE (vs := [.pointer (some ⟨db, 0, none⟩)]) Tryz.func72 rfl rfl rfl rfl hl hl (TriE.ent ent (dv_LenH db d (LgP lb db g mb :: R))) ?_
  rintro v M ⟨rfl, rfl⟩
  refine ⟨[], DevH db d :: R, ent, ?_⟩
  refine go ?_
  refine ⟨LgP lb db g mb :: DevH db d :: R, ent, ?_⟩
  refine go ?_
  exact ⟨rfl, [_], ⟨Res.tmp rfl, trivial⟩, _, ent, rfl, rfl⟩
theorem jr_place (lb db mb k : Nat) (g : Lg) (L : List HP) (h3 : 3 ≤ g.log) (h4 : g.log ≤ 4096) (hgl : (g.log : Int) = g.hd.log) (hc : g.cur < g.log) (hk : k ≤ 100000) [r : Rd L lb (.cells (lgL db g mb).toArray 147 (0, 0))] :
    TriE Tryz.prog 154 #[.pointer (some ⟨lb, 0, none⟩), .int .i64 k] (fun v M => v = .int .i64 (g.place k : Nat) ∧ M = L) L := by
  refine Tri.of (N := 18) (args := [.pointer (some ⟨lb, 0, none⟩), .int .i64 k]) Tryz.func154 rfl rfl rfl ?_
  refine go ?_
  have hpl : g.place k = 2 + (g.cur + k) % g.log := rfl
  refine W.drawA rfl (by kernel_rfl) (by kernel_rfl) ?_
  refine go ?_
  refine ⟨rfl, [_], ⟨Res.tmp rfl, trivial⟩, L, ent, ?_, rfl⟩
  show Value.int _ (IntKind.wrap .i64 (2 + ((g.cur : Int) + (k : Int)) % g.hd.log)) = _
  have hm := Nat.mod_lt (g.cur + k) (show 0 < g.log by omega)
  have e : ((g.cur : Int) + (k : Int)) % g.hd.log = (((g.cur + k) % g.log : Nat) : Int) := by rw [← hgl]; exact_mod_cast rfl
  rw [e, hpl]
  generalize (g.cur + k) % g.log = m at *
  congr 1
  rw [show (2 : Int) + (m : Int) = ((2 + m : Nat) : Int) by omega]
  exact wI
theorem jr_home (lb db mb n : Nat) (g : Lg) (L : List HP) (h4 : g.log ≤ 4096) (hgl : (g.log : Int) = g.hd.log) (hn : n ≤ 100000) [r : Rd L lb (.cells (lgL db g mb).toArray 147 (0, 0))] :
    TriE Tryz.prog 82 #[.pointer (some ⟨lb, 0, none⟩), .int .i64 n] (fun v M => v = .int .i64 (g.home n : Nat) ∧ M = L) L := by
  refine Tri.of (N := 13) (args := [.pointer (some ⟨lb, 0, none⟩), .int .i64 n]) Tryz.func82 rfl rfl rfl ?_
  refine go ?_
  refine ⟨rfl, [_], ⟨Res.tmp rfl, trivial⟩, L, ent, ?_, rfl⟩
  show Value.int _ _ = _
  congr 1
  unfold Lg.home
  omega
theorem jr_fell (lb db mb : Nat) (g : Lg) (e : Int) (R : List HP) :
    TriE Tryz.prog 83 #[.pointer (some ⟨lb, 0, none⟩), .int .i64 e] (fun v M => v = .int .i64 e ∧ M = LgP lb db { g with down := g.down || decide (e ≠ 0) } mb :: R) (LgP lb db g mb :: R) := by
  refine Tri.of (N := 17) (args := [.pointer (some ⟨lb, 0, none⟩), .int .i64 e]) Tryz.func83 rfl rfl rfl ?_
  obtain ⟨hd, cur, seq, used, wet, down⟩ := g
  cases down with
  | true =>
    refine go ?_
    exact ⟨rfl, [_], ⟨Res.tmp rfl, trivial⟩, _, ent, rfl, rfl⟩
  | false =>
    by_cases he : e = 0
    · subst he
      refine go ?_
      exact ⟨rfl, [_], ⟨Res.tmp rfl, trivial⟩, _, ent, rfl, rfl⟩
    · rw [show (false || decide (e ≠ 0)) = true by simp [he]]
      refine go ?_
      exact ⟨rfl, [_], ⟨Res.tmp rfl, trivial⟩, _, ent, rfl, rfl⟩
theorem jr_first (n : Int) (L : List HP) : TriE Tryz.prog 117 #[.int .i64 n] (fun v M => v = .agg (Hd.L ⟨1, 1, 0, 1, n⟩).toArray ∧ M = L) L := by
  refine Tri.of (N := 5) (args := [.int .i64 n]) Tryz.func117 rfl rfl rfl ?_
  refine go ?_
  intro b
  refine go ?_
  exact ⟨rfl, [_], ⟨Res.cell rfl le0 nl, trivial⟩, L, ent, rfl, rfl⟩
end Go.SL

/- Layer 10 (journal): sealed and opened blocks, the head saved; walked. -/
namespace Go.SL
open Go.Proofs
set_option linter.unusedVariables false
set_option linter.unusedSimpArgs false
set_option linter.unusedSectionVars false
set_option maxRecDepth 10000
set_option maxHeartbeats 4000000
/-- What is asked of a log to be walked. -/
structure LgW (g : Lg) : Prop where
  l3 : 3 ≤ g.log
  l4 : g.log ≤ 4096
  eq : (g.log : Int) = g.hd.log
  cur : g.cur < g.log
  ep : g.hd.epoch < 18446744073709551616
  sq : g.seq < 18446744073709551616
attribute [local irreducible] W WO SV OW SW Tri Ent Tk Has Src SrcK DA DB RdS Own
theorem jr_sealed (lb db mb k : Nat) (g : Lg) (d : Dv) (kind : UInt8) (a : Option Addr) (c : Nat) (b : Byt) (R : List HP) (w : LgW g) (hk : k ≤ 100000) (hkd : mkR kind = true) (hb : b.length ≤ 220) (ok : d.Ok) (hwt : d.waits.length ≤ 1000000) (r : RdS 1 a b.length (b.map u8V) R) :
    TriE Tryz.prog 152 #[.pointer (some ⟨lb, 0, none⟩), .int .i64 k, u8V kind, .slice a b.length c] (fun v M => v = .int .i64 (sealP d g k kind b).2 ∧ M = LgP lb db g mb :: DevH db (sealP d g k kind b).1 :: R) (LgP lb db g mb :: DevH db d :: R) := by
  refine Tri.of (N := 39) (args := [.pointer (some ⟨lb, 0, none⟩), .int .i64 k, u8V kind, .slice a b.length c]) Tryz.func152 rfl rfl rfl ?_
  refine go ?_
  refine W.drawB #[0, 0, 2, 6, 14, 30, 0, 64, 192, 448, 1023, 0, 4095, 8191, 16383, 16383, 32767, 131071] [LgP lb db g mb] (DevH db d :: R) rfl (by kernel_rfl) (by kernel_rfl) (by kernel_rfl) ent ?_
  refine go ?_
  refine DB.callE (vs := [.agg (mkL kind g.hd.epoch g.seq).toArray, .slice a b.length c]) Tryz.func182 rfl rfl rfl rfl hl hl (mk_Seal kind g.hd.epoch g.seq a c b _ w.ep w.sq (by omega) r.cons.cons) ?_
  rintro v M (⟨h, _⟩ | ⟨_, h, _⟩ | ⟨_, _, a2, c2, rfl, ha2, hc2, rfl⟩)
  · rw [hkd] at h; cases h
  · omega
  have hsl : (sealB kind g.hd.epoch g.seq b).length = 256 := sealB_len hb
  have hsp : sealP d g k kind b = d.put (g.place k : Nat) (sealB kind g.hd.epoch g.seq b) := rfl
  rw [hsp]
  clear hsp
  generalize sealB kind g.hd.epoch g.seq b = s at *
  refine ⟨[], DevH db d :: OS a2 c2 s :: R, ent, ?_⟩
  refine go ?_
  refine ⟨LgP lb db g mb :: DevH db d :: OS a2 c2 s :: R, ent, ?_⟩
  refine go ?_
  refine W.drawB #[0, 1, 3, 7, 0, 0, 48, 0, 255, 511] [LgP lb db g mb] (DevH db d :: OS a2 c2 s :: R) rfl (by kernel_rfl) (by kernel_rfl) (by kernel_rfl) ent ?_
  refine go ?_
  refine DB.callE (vs := [.pointer (some ⟨lb, 0, none⟩), .int .i64 k]) Tryz.func154 rfl rfl rfl rfl hl hl (jr_place lb db mb k g _ w.l3 w.l4 w.eq w.cur hk) ?_
  rintro v M ⟨rfl, rfl⟩
  refine ⟨[], DevH db d :: OS a2 c2 s :: R, ent, ?_⟩
  refine go ?_
  refine DB.callE (vs := [.pointer (some ⟨db, 0, none⟩), .int .i64 (g.place k : Nat), .slice a2 s.length c2]) Tryz.func103 rfl rfl rfl rfl hl hl (TriE.ent (A := DevH db d :: LgP lb db g mb :: OS a2 c2 s :: R) ent (dv_Write db d (g.place k : Nat) a2 c2 s _ ok (by omega) hwt (OS.rd (Tk.there Tk.here) ha2))) ?_
  rintro v M ⟨rfl, rfl⟩
  refine ⟨[], DevH db (d.put (g.place k : Nat) s).1 :: R, ent, ?_⟩
  refine go ?_
  refine ⟨LgP lb db g mb :: DevH db (d.put (g.place k : Nat) s).1 :: R, ent, ?_⟩
  refine go ?_
  exact ⟨rfl, [_], ⟨Res.tmp rfl, trivial⟩, _, ent, rfl, rfl⟩
end Go.SL

/- Layer 10 (journal): what stands in a sealed block at a place, walked. -/
namespace Go.SL
open Go.Proofs
set_option linter.unusedVariables false
set_option linter.unusedSimpArgs false
set_option linter.unusedSectionVars false
set_option maxRecDepth 10000
set_option maxHeartbeats 4000000
theorem now256 {d : Dv} (ok : d.Ok) {n : Nat} (h : n < d.kept.length) : (d.now.getD n []).length = 256 := by
  have hl := ok.now
  rw [List.getD_eq_getElem?_getD, List.getElem?_eq_getElem (by omega)]
  exact ok.n256 _ (List.getElem_mem _)
attribute [local irreducible] W WO SV OW SW Tri Ent Tk Has Src SrcK DA DB RdS Own
theorem jr_opened (lb db mb k : Nat) (g : Lg) (d : Dv) (kind : UInt8) (R : List HP) (w : LgW g) (hk : k ≤ 100000) (hp : g.place k < d.kept.length) (ok : d.Ok) :
    TriE Tryz.prog 183 #[.pointer (some ⟨lb, 0, none⟩), .int .i64 k, u8V kind] (fun v M => ∃ a c, v = .tuple [.slice a (openedP d g k kind).2.1.length c, .bool (openedP d g k kind).2.2.1, .int .i64 (openedP d g k kind).2.2.2].toArray ∧ SomeA a (openedP d g k kind).2.1.length ∧ M = OS a c (openedP d g k kind).2.1 :: LgP lb db g mb :: DevH db (openedP d g k kind).1 :: R) (LgP lb db g mb :: DevH db d :: R) := by
  have hn := now256 ok hp
  refine Tri.of (N := 52) (args := [.pointer (some ⟨lb, 0, none⟩), .int .i64 k, u8V kind]) Tryz.func183 rfl rfl rfl ?_
  refine go ?_
  refine W.drawB #[0, 1, 3, 7, 0, 0, 48, 127, 255, 511, 511, 1023, 4095] [LgP lb db g mb] (DevH db d :: R) rfl (by kernel_rfl) (by kernel_rfl) (by kernel_rfl) ent ?_
  refine go ?_
  refine DB.callE (vs := [.pointer (some ⟨lb, 0, none⟩), .int .i64 k]) Tryz.func154 rfl rfl rfl rfl hl hl (jr_place lb db mb k g _ w.l3 w.l4 w.eq w.cur hk) ?_
  rintro v M ⟨rfl, rfl⟩
  refine ⟨[], DevH db d :: R, ent, ?_⟩
  have hP : openedP d g k kind = if (d.read (g.place k : Nat)).2 ≠ 0 then ((d.read (g.place k : Nat)).1, [], false, (d.read (g.place k : Nat)).2)
    else ((d.read (g.place k : Nat)).1, rB (d.now.getD (g.place k) []), decide (rZ (d.now.getD (g.place k) []) = 0 ∧ rK (d.now.getD (g.place k) []) = kind ∧ rE (d.now.getD (g.place k) []) = g.hd.epoch ∧ rQ (d.now.getD (g.place k) []) = g.seq), 0) := rfl
  generalize openedP d g k kind = P at *
  have hT : ((g.place k : Nat) : Int).toNat = g.place k := rfl
  refine go ?_
  refine DB.callE (vs := [.pointer (some ⟨db, 0, none⟩), .int .i64 (g.place k : Nat)]) Tryz.func81 rfl rfl rfl rfl hl hl (TriE.ent (A := DevH db d :: LgP lb db g mb :: R) ent (dv_Read db d (g.place k : Nat) _ ok)) ?_
  rintro v M (⟨he, rfl, rfl⟩ | ⟨he, a, c, rfl, ha, rfl⟩)
  · rw [if_pos he] at hP
    subst hP
    generalize d.read (g.place k : Nat) = q at *
    refine ⟨[], DevH db q.1 :: R, ent, ?_⟩
    refine go ?_
    refine ⟨LgP lb db g mb :: DevH db q.1 :: R, ent, ?_⟩
    refine go ?_
    refine ⟨rfl, [_, _, _], ⟨Res.tmp rfl, Res.tmp rfl, Res.tmp rfl, trivial⟩, OS none 0 [] :: LgP lb db g mb :: DevH db q.1 :: R, ?_, none, 0, rfl, fun z => absurd rfl z, rfl⟩
    unfold OS; exact Ent.ownNil ent
  · rw [if_neg (by simpa using he)] at hP
    rw [hT] at *
    generalize d.now.getD (g.place k) [] = s at *
    generalize (d.read (g.place k : Nat)) = q at *
    subst hP
    obtain ⟨q1, q2⟩ := q
    obtain rfl : q2 = 0 := he
    refine ⟨[], DevH db q1 :: OS a c s :: R, ent, ?_⟩
    refine go ?_
    refine ⟨OS a c s :: LgP lb db g mb :: DevH db q1 :: R, ent, ?_⟩
    refine go ?_
    refine WO.ownCap (E := 5) (sz := 1) (n := s.length) (xs := s.map u8V) (show Tk _ (OS a c s) _ from tk) fun hcap => ?_
    refine WO.callE (vs := [.slice a s.length c]) Tryz.func163 rfl rfl (by rw [hn]; rfl) rfl (mk_OpenU (OS a c s) a c s _ (by omega) hcap (OS.rd Tk.here (by rw [hn]; exact ha))) ?_
    rintro v M ⟨a2, c2, rfl, ha2, e2⟩
    refine WO.ent (M := OS a2 c2 (rB s) :: LgP lb db g mb :: DevH db q1 :: R) (e2.trans ent) ?_
    generalize rB s = b2 at *
    generalize rK s = k2 at *
    generalize rE s = ee at *
    generalize rQ s = qq at *
    generalize rZ s = z2 at *
    refine go ?_
    intro b5
    refine go ?_
    by_cases hz : z2 = 0
    · subst hz
      refine W.drawB #[0, 0, 2, 6, 14, 14, 14, 78, 206, 462, 974, 14, 2062, 6158, 14350, 32750, 65534, 131070, 15, 524287, 1048575] [pts b5 (.cells (mkL k2 ee qq).toArray 223), LgP lb db g mb] (OS a2 c2 b2 :: DevH db q1 :: R) rfl (by kernel_rfl) (by kernel_rfl) (by kernel_rfl) ent ?_
      refine go ?_
      refine DB.q (v := .bool (decide (k2 = kind ∧ ee = g.hd.epoch ∧ qq = g.seq))) rfl rfl hl (SV.eqlMk rfl rfl eqq) ?_
      refine go ?_
      refine ⟨OS a2 c2 b2 :: LgP lb db g mb :: DevH db q1 :: R, ent, ?_⟩
      refine go ?_
      refine ⟨rfl, [_, _, _], ⟨Res.tmp rfl, Res.tmp rfl, Res.tmp rfl, trivial⟩, _, ent, a2, c2, ?_, ha2, rfl⟩
      simp only [true_and]
      rfl
    · refine W.drawB #[0, 0, 2, 6, 14, 14, 14, 78, 206, 462, 974, 14, 2062, 6158, 14350, 32750, 65534, 131070, 15, 524287, 1048575] [] (pts b5 (.cells (mkL k2 ee qq).toArray 223) :: LgP lb db g mb :: OS a2 c2 b2 :: DevH db q1 :: R) rfl (by kernel_rfl) (by kernel_rfl) (by kernel_rfl) ent ?_
      refine go ?_
      refine ⟨OS a2 c2 b2 :: LgP lb db g mb :: DevH db q1 :: R, ent, ?_⟩
      refine go ?_
      refine ⟨rfl, [_, _, _], ⟨Res.tmp rfl, Res.tmp rfl, Res.tmp rfl, trivial⟩, _, ent, a2, c2, ?_, ha2, rfl⟩
      rw [decide_eq_false (fun q => hz q.1)]
      rfl
end Go.SL

/- Layer 10 (journal): a head is saved, walked. -/
namespace Go.SL
open Go.Proofs
set_option linter.unusedVariables false
set_option linter.unusedSimpArgs false
set_option linter.unusedSectionVars false
set_option maxRecDepth 10000
set_option maxHeartbeats 4000000
theorem sub_fullH {l : List Value} {n : Nat} (h : l.length = n) : NL (lsub l 0 n) l := by
  rw [lsub_eq, List.drop_zero, List.take_of_length_le (by omega)]; rfl
attribute [local irreducible] W WO SV OW SW Tri Ent Tk Has Src SrcK DA DB RdS Own
theorem jr_save (lb db mb ep : Nat) (g : Lg) (d : Dv) (R : List HP) (w : LgW g) (hg : g.hd.gen < 9223372036854775808) (he : ep < 18446744073709551616) (ok : d.Ok) (hwt : d.waits.length ≤ 100000) :
    TriE Tryz.prog 105 #[.pointer (some ⟨lb, 0, none⟩), .int .u64 ep] (fun v M => v = .int .i64 (saveP d g ep).2.2 ∧ M = LgP lb db (saveP d g ep).2.1 mb :: DevH db (saveP d g ep).1 :: R) (LgP lb db g mb :: DevH db d :: R) := by
  have hlog := w.eq
  have hl4 := w.l4
  have hcl := w.cur
  have hsq := w.sq
  refine Tri.of (N := 41) (args := [.pointer (some ⟨lb, 0, none⟩), .int .u64 ep]) Tryz.func105 rfl rfl rfl ?_
  refine go ?_
  refine W.drawB #[0, 1, 3, 7, 15, 31, 0, 0, 128, 384, 896, 0, 2048, 6144, 14336, 0, 32768, 98304, 229376, 491520, 1048575, 0, 4194303] [LgP lb db g mb] (DevH db d :: R) rfl (by kernel_rfl) (by kernel_rfl) (by kernel_rfl) ent ?_
  refine go ?_
  refine DB.alloc rfl ?_
  intro b5
  refine DB.v rfl rfl rfl hl hl ?_
  refine SV.store rfl rfl cel rfl rfl rfl frz le0 nl ?_
  have hn : (g.next ep).L = [.int .u64 ((g.hd.gen : Int) + 1), .int .u64 ep, .int .i64 g.cur, .int .u64 g.seq, .int .i64 g.hd.log] := rfl
  have fit : (g.next ep).Fit := by
    unfold Lg.next
    exact ⟨by dsimp only; omega, he, hsq, by dsimp only; omega, by dsimp only; omega⟩
  have hsp : saveP d g ep = if (saveS d (g.next ep)).2 = 0 then ((saveS d (g.next ep)).1, { g with hd := g.next ep }, 0) else ((saveS d (g.next ep)).1, g, (saveS d (g.next ep)).2) := rfl
  refine ⟨[], pts b5 (.cells (g.next ep).L.toArray 137) :: DevH db d :: R, ent, ?_⟩
  refine go ?_
  refine ⟨pts b5 (.cells (g.next ep).L.toArray 137) :: LgP lb db g mb :: DevH db d :: R, ent, ?_⟩
  refine goC ?_
  refine W.drawB #[0, 1, 3, 7, 0, 31, 63] [pts b5 (.cells (g.next ep).L.toArray 137), LgP lb db g mb] (DevH db d :: R) rfl (by kernel_rfl) (by kernel_rfl) (by kernel_rfl) ent ?_
  refine go ?_
  refine DB.callE (vs := [.pointer (some ⟨db, 0, none⟩), .agg (g.next ep).L.toArray]) Tryz.func119 rfl rfl rfl rfl hl hl (TriE.ent (A := DevH db d :: pts b5 (.cells (g.next ep).L.toArray 137) :: LgP lb db g mb :: R) ent (h9_Save db d (g.next ep) _ ok hwt fit)) ?_
  rintro v M ⟨rfl, rfl⟩
  rw [hsp]
  clear hsp
  generalize hq : saveS d (g.next ep) = q at *
  refine ⟨[], DevH db q.1 :: R, ent, ?_⟩
  refine go ?_
  refine ⟨pts b5 (.cells (g.next ep).L.toArray 137) :: LgP lb db g mb :: DevH db q.1 :: R, ent, ?_⟩
  obtain ⟨d2, z⟩ := q
  dsimp only
  by_cases hz : z = 0
  · subst hz
    rw [if_pos rfl]
    refine go ?_
    exact ⟨rfl, [_], ⟨Res.tmp rfl, trivial⟩, LgP lb db { g with hd := g.next ep } mb :: DevH db d2 :: R, ent, rfl, rfl⟩
  · rw [if_neg hz]
    refine go ?_
    exact ⟨rfl, [_], ⟨Res.tmp rfl, trivial⟩, LgP lb db g mb :: DevH db d2 :: R, ent, rfl, rfl⟩
end Go.SL

/- Layer 10 (journal): a device gets an empty log, walked. -/
namespace Go.SL
open Go.Proofs
set_option linter.unusedVariables false
set_option linter.unusedSimpArgs false
set_option linter.unusedSectionVars false
set_option maxRecDepth 10000
set_option maxHeartbeats 4000000
def hd1 (blocks : Int) : Hd := ⟨1, 1, 0, 1, blocks⟩
def fmtW : Nat → Dv → Nat → Dv × Int
  | 0, d, _ => (d, 0)
  | f + 1, d, n => if (d.put (n : Nat) zero256).2 ≠ 0 then d.put (n : Nat) zero256 else fmtW f (d.put (n : Nat) zero256).1 (n + 1)
def fmtS (d : Dv) (blocks : Int) : Dv × Int :=
  if d.kept.length = 0 then (d, 1) else if HdR (hd1 blocks) d.kept.length then andD (fmtW (d.kept.length - (2 + blocks.toNat)) d (2 + blocks.toNat)) fun d => andD d.flush fun d => saveS d (hd1 blocks) else (d, 2)
theorem put_kept (d : Dv) (n : Int) (s : Byt) : (d.put n s).1.kept = d.kept := by
  unfold Dv.put
  split <;> simp
theorem flush_kept (d : Dv) (ok : d.Ok) : d.flush.1.kept.length = d.kept.length := by
  have h := Dv.flush_ok ok
  have h1 := h.now
  have : d.flush.1.now = d.now := by unfold Dv.flush; split <;> simp
  rw [this, ok.now] at h1
  exact h1.symm
theorem flush_waits (d : Dv) : d.flush.1.waits.length ≤ d.waits.length := by
  unfold Dv.flush
  split
  · simp
  · simp
attribute [local irreducible] W WO SV OW SW Tri Ent Tk Has Src SrcK DA DB RdS Own
theorem jr_FormatN (n : Int) (L : List HP) : TriE Tryz.prog 63 #[.pointer none, .int .i64 n] (fun v M => v = .int .i64 1 ∧ M = L) L := by
  refine Tri.of (N := 45) (args := [.pointer none, .int .i64 n]) Tryz.func63 rfl rfl rfl ?_
  refine go ?_
  refine WO.callE (vs := [.pointer none]) Tryz.func72 rfl rfl rfl rfl (dv_Len0 _) ?_
  rintro v M ⟨rfl, rfl⟩
  refine go ?_
  exact ⟨rfl, [_], ⟨Res.tmp rfl, trivial⟩, _, ent, rfl, rfl⟩
theorem jr_Format (db : Nat) (d : Dv) (n : Int) (R : List HP) (ok : d.Ok) (hw : d.waits.length ≤ 10000) (hk : d.kept.length ≠ 0) (hn : -9223372036854775808 ≤ n ∧ n ≤ 9223372036854775807) :
    TriE Tryz.prog 63 #[.pointer (some ⟨db, 0, none⟩), .int .i64 n] (fun v M => v = .int .i64 (fmtS d n).2 ∧ M = DevH db (fmtS d n).1 :: R) (DevH db d :: R) := by
  have hsz := ok.size
  have hS : fmtS d n = if d.kept.length = 0 then (d, 1) else if HdR (hd1 n) d.kept.length then andD (fmtW (d.kept.length - (2 + n.toNat)) d (2 + n.toNat)) fun d => andD d.flush fun d => saveS d (hd1 n) else (d, 2) := rfl
  rw [if_neg hk] at hS
  refine Tri.of (N := 45) (args := [.pointer (some ⟨db, 0, none⟩), .int .i64 n]) Tryz.func63 rfl rfl rfl ?_
  refine go ?_
  refine WO.callE (vs := [.pointer (some ⟨db, 0, none⟩)]) Tryz.func72 rfl rfl rfl rfl (dv_LenH db d R) ?_
  rintro v M ⟨rfl, rfl⟩
  refine go ?_
  refine WO.callE (vs := [.int .i64 n]) Tryz.func117 rfl rfl rfl rfl (jr_first n _) ?_
  rintro v M ⟨rfl, rfl⟩
  refine go ?_
  refine WO.callE (vs := [.pointer (some ⟨db, 0, none⟩)]) Tryz.func72 rfl rfl rfl rfl (dv_LenH db d R) ?_
  rintro v M ⟨rfl, rfl⟩
  refine go ?_
  refine WO.callE (vs := [.agg (hd1 n).L.toArray, .int .i64 d.kept.length]) Tryz.func118 rfl rfl rfl rfl (h9_Right (hd1 n) d.kept.length _ (by omega)) ?_
  rintro v M ⟨rfl, rfl⟩
  by_cases hr : HdR (hd1 n) d.kept.length
  rotate_left
  · rw [if_neg hr] at hS
    rw [hS, decide_eq_false hr]
    refine go ?_
    exact ⟨rfl, [_], ⟨Res.tmp rfl, trivial⟩, _, ent, rfl, rfl⟩
  have hr' := hr
  unfold HdR hd1 at hr'
  dsimp only at hr'
  rw [if_pos hr] at hS
  rw [decide_eq_true hr]
  obtain ⟨m, rfl⟩ : ∃ m : Nat, n = m := ⟨n.toNat, by omega⟩
  rw [show ((m : Nat) : Int).toNat = m from rfl] at hS
  refine go ?_
  refine WO.sv rfl ?_
  refine SV.makeSlice rfl (m := 256) rfl (by decide) (by decide) ?_
  intro bz
  refine go ?_
  refine W.ent (M := OS (some ⟨bz, 0, none⟩) 256 zero256 :: DevH db d :: R) (by unfold OS; exact (ent_own (sz := 1) (n := 256) (by simp)).trans ent) ?_
  generalize hF : fmtW (d.kept.length - (2 + m)) d (2 + m) = F at *
  refine W.loopS 68711088336 rfl (fun q : Nat × Dv => [(6, .int .i64 (q.1 : Int))]) (fun q => OS (some ⟨bz, 0, none⟩) 256 zero256 :: DevH db q.2 :: R)
    (fun q => 2 + m ≤ q.1 ∧ q.1 ≤ d.kept.length ∧ q.2.Ok ∧ q.2.kept.length = d.kept.length ∧ q.2.waits.length ≤ d.waits.length + q.1 ∧ fmtW (d.kept.length - q.1) q.2 q.1 = F) (fun q => d.kept.length - q.1) (2 + m, d) ⟨?_, trivial⟩ ⟨Nat.le_refl _, by dsimp only; omega, ok, rfl, by dsimp only; omega, hF⟩ (Ent.app ent) ?_
  · show Value.int _ _ = Value.int _ _
    congr 1
  clear ok
  rintro ⟨i, d1⟩ bg ⟨hi1, hi2, ok, hkl, hwl, he⟩
  dsimp only at hi1 hi2 ok hkl hwl he ⊢
  by_cases h9 : i < d.kept.length
  · obtain ⟨f, hf⟩ : ∃ f, d.kept.length - i = f + 1 := ⟨d.kept.length - i - 1, by omega⟩
    have hst : fmtW (f + 1) d1 i = if (d1.put (i : Nat) zero256).2 ≠ 0 then d1.put (i : Nat) zero256 else fmtW f (d1.put (i : Nat) zero256).1 (i + 1) := rfl
    rw [hf, hst] at he
    clear hst
    have ok2 := Dv.put_ok ok (i : Nat) zero256
    have hk2 := put_kept d1 (i : Nat) zero256
    have hw2 := put_waits d1 (i : Nat) zero256
    refine go ?_
    refine WO.callE (vs := [.pointer (some ⟨db, 0, none⟩)]) Tryz.func72 rfl rfl rfl rfl (TriE.ent (A := DevH db d1 :: OS (some ⟨bz, 0, none⟩) 256 zero256 :: R) ent (dv_LenH db d1 _)) ?_
    rintro v M ⟨rfl, rfl⟩
    rw [hkl]
    refine go ?_
    refine WO.callE (vs := [.pointer (some ⟨db, 0, none⟩), .int .i64 (i : Nat), .slice (some ⟨bz, 0, none⟩) zero256.length 256]) Tryz.func103 rfl rfl rfl rfl (dv_Write db d1 (i : Nat) (some ⟨bz, 0, none⟩) 256 zero256 _ ok (by simp [zero256]) (by omega) (OS.rd Tk.here (fun _ => ⟨bz, rfl⟩))) ?_
    rintro v M ⟨rfl, rfl⟩
    generalize d1.put (i : Nat) zero256 = q at *
    obtain ⟨d2, z⟩ := q
    dsimp only at he ok2 hk2 hw2 ⊢
    by_cases hz : z = 0
    · subst hz
      rw [if_neg (by simp)] at he
      refine go ?_
      refine ⟨(i + 1, d2), ⟨rfl, trivial⟩, rfl, ⟨by dsimp only; omega, by dsimp only; omega, ok2, by dsimp only; rw [hk2, hkl], by dsimp only; omega, ?_⟩, by dsimp only; omega, Ent.app ent⟩
      dsimp only
      rw [show d.kept.length - (i + 1) = f by omega]
      exact he
    · rw [if_pos hz] at he
      subst he
      have hS2 : fmtS d m = (d2, z) := by rw [hS]; unfold andD; rw [if_pos hz]
      rw [hS2]
      refine go ?_
      exact ⟨rfl, [_], ⟨Res.tmp rfl, trivial⟩, _, ent, rfl, rfl⟩
  · obtain rfl : i = d.kept.length := by omega
    rw [Nat.sub_self] at he
    have he' : F = (d1, 0) := he.symm
    subst he'
    have hS2 : fmtS d m = andD d1.flush fun d => saveS d (hd1 m) := by rw [hS]; unfold andD; rw [if_neg (by simp)]
    rw [hS2]
    have ok2 := Dv.flush_ok ok
    have hk2 := flush_kept d1 ok
    have hw2 := flush_waits d1
    refine go ?_
    refine WO.callE (vs := [.pointer (some ⟨db, 0, none⟩)]) Tryz.func72 rfl rfl rfl rfl (TriE.ent (A := DevH db d1 :: OS (some ⟨bz, 0, none⟩) 256 zero256 :: R) ent (dv_LenH db d1 _)) ?_
    rintro v M ⟨rfl, rfl⟩
    rw [hkl]
    refine go ?_
    refine WO.callE (vs := [.pointer (some ⟨db, 0, none⟩)]) Tryz.func104 rfl rfl rfl rfl (dv_Flush db d1 _ ok (by omega)) ?_
    rintro v M ⟨rfl, rfl⟩
    generalize d1.flush = q at *
    obtain ⟨d2, z⟩ := q
    dsimp only at ok2 hk2 hw2 ⊢
    by_cases hz : z = 0
    · subst hz
      rw [show andD (d2, 0) (fun d => saveS d (hd1 m)) = saveS d2 (hd1 m) from rfl]
      refine go ?_
      refine WO.callE (vs := [.int .i64 m]) Tryz.func117 rfl rfl rfl rfl (jr_first m _) ?_
      rintro v M ⟨rfl, rfl⟩
      refine WO.callE (vs := [.pointer (some ⟨db, 0, none⟩), .agg (hd1 m).L.toArray]) Tryz.func119 rfl rfl rfl rfl (h9_Save db d2 (hd1 m) _ ok2 (by omega) ⟨show (1 : Nat) < 18446744073709551616 by decide, show (1 : Nat) < 18446744073709551616 by decide, show (1 : Nat) < 18446744073709551616 by decide, show (-9223372036854775808 : Int) ≤ 0 ∧ (0 : Int) ≤ 9223372036854775807 by decide, by unfold hd1; dsimp only; omega⟩) ?_
      rintro v M ⟨rfl, rfl⟩
      generalize saveS d2 (hd1 m) = q2
      obtain ⟨d3, z3⟩ := q2
      refine go ?_
      exact ⟨rfl, [_], ⟨Res.tmp rfl, trivial⟩, DevH db d3 :: R, ent, rfl, rfl⟩
    · rw [show andD (d2, z) (fun d => saveS d (hd1 m)) = (d2, z) by unfold andD; rw [if_pos hz]]
      refine go ?_
      exact ⟨rfl, [_], ⟨Res.tmp rfl, trivial⟩, DevH db d2 :: R, ent, rfl, rfl⟩
end Go.SL

/- Layer 10 (journal): whether changes may be done, walked. -/
namespace Go.SL
open Go.Proofs
set_option linter.unusedVariables false
set_option linter.unusedSimpArgs false
set_option linter.unusedSectionVars false
set_option maxRecDepth 10000
set_option maxHeartbeats 4000000
theorem rangeAt {m : Nat} (g : Nat → List Value) (hg : ∀ i, (g i).length = m) : ∀ n i, i < n → lsub ((List.range n).flatMap g) (i * m) m = g i
  | 0, i, h => by omega
  | n + 1, i, h => by
    have hll : ((List.range n).flatMap g).length = n * m := by
      clear h
      induction n with
      | zero => simp
      | succ n ih => rw [List.range_succ, List.flatMap_append, List.length_append, ih]; simp [hg]; rw [Nat.add_mul]; omega
    rw [List.range_succ, List.flatMap_append, lsub_eq]
    by_cases e : i < n
    · have := rangeAt g hg n i e
      rw [lsub_eq] at this
      have h1 : i * m + m ≤ n * m := by rw [← Nat.succ_mul]; exact Nat.mul_le_mul_right _ e
      rw [List.drop_append_of_le_length (by omega), List.take_append_of_le_length (by rw [List.length_drop]; omega)]
      exact this
    · obtain rfl : i = n := by omega
      rw [← hll, List.drop_left]
      simp [List.take_of_length_le (Nat.le_of_eq (hg i))]
theorem rangeLen {m : Nat} (g : Nat → List Value) (hg : ∀ i, (g i).length = m) (n : Nat) : ((List.range n).flatMap g).length = n * m := by
  induction n with
  | zero => simp
  | succ n ih => rw [List.range_succ, List.flatMap_append, List.length_append, ih]; simp [hg]; rw [Nat.add_mul]; omega
/-- The cells of changes: numbers, and where their bytes lie. -/
def chV (cs : Chs) (f : Nat → Option Addr × Nat) (i : Nat) : List Value := [.int .i64 (cs.getD i (0, [])).1, .slice (f i).1 (cs.getD i (0, [])).2.length (f i).2]
def chRow (cs : Chs) (f : Nat → Option Addr × Nat) : List Value := (List.range cs.length).flatMap (chV cs f)
theorem chRow_len (cs : Chs) (f : Nat → Option Addr × Nat) : (chRow cs f).length = cs.length * 2 := by unfold chRow; exact rangeLen (chV cs f) (fun _ => rfl) _
theorem chRow_at (cs : Chs) (f : Nat → Option Addr × Nat) {i : Nat} (h : i < cs.length) : lsub (chRow cs f) (i * 2) 2 = chV cs f i := by unfold chRow; exact rangeAt (chV cs f) (fun _ => rfl) _ _ h
/-- Changes that can be read. -/
structure ChR (a : Option Addr) (cs : Chs) (f : Nat → Option Addr × Nat) (L : List HP) : Prop where
  row : RdS 2 a cs.length (chRow cs f) L
  bs : ∀ i, i < cs.length → RdS 1 (f i).1 (cs.getD i (0, [])).2.length ((cs.getD i (0, [])).2.map u8V) L
  lens : ∀ i, i < cs.length → (cs.getD i (0, [])).2.length ≤ 9223372036854775807
  ns : ∀ i, i < cs.length → -9223372036854775808 ≤ (cs.getD i (0, [])).1 ∧ (cs.getD i (0, [])).1 ≤ 9223372036854775807
  count : cs.length ≤ 1000000
theorem ChR.cons {a : Option Addr} {cs : Chs} {f : Nat → Option Addr × Nat} {L : List HP} {A : HP} (r : ChR a cs f L) : ChR a cs f (A :: L) := ⟨r.row.cons, fun i h => (r.bs i h).cons, r.lens, r.ns, r.count⟩
theorem ChR.ent {a : Option Addr} {cs : Chs} {f : Nat → Option Addr × Nat} {L M : List HP} (e : Ent L M) (r : ChR a cs f M) : ChR a cs f L := ⟨r.row.ent e, fun i h => (r.bs i h).ent e, r.lens, r.ns, r.count⟩
theorem take_map_succ {cs : Chs} {i : Nat} (h : i < cs.length) : (cs.take (i + 1)).map (·.1) = (cs.take i).map (·.1) ++ [(cs.getD i (0, [])).1] := by
  rw [List.take_succ_eq_append_getElem h, List.map_append, List.getD_eq_getElem?_getD, List.getElem?_eq_getElem h]; rfl
attribute [local irreducible] W WO SV OW SW Tri Ent Tk Has Src SrcK DA DB RdS Own MapH
theorem jr_right (lb db mb : Nat) (g : Lg) (d : Dv) (a : Option Addr) (c : Nat) (cs : Chs) (f : Nat → Option Addr × Nat) (R : List HP) (hk : d.kept.length ≤ 4096) (hlog : (g.log : Int) = g.hd.log) (hl3 : g.log + 2 ≤ d.kept.length) (r : ChR a cs f R) :
    TriE Tryz.prog 101 #[.pointer (some ⟨lb, 0, none⟩), .slice a cs.length c] (fun v M => v = .bool (chsR (homeN d g) cs) ∧ M = LgP lb db g mb :: DevH db d :: R) (LgP lb db g mb :: DevH db d :: R) := by
  have hcount := r.count
  have hhome : ((d.kept.length : Int) - 2 - g.hd.log) = (homeN d g : Nat) := by unfold homeN; omega
  refine Tri.of (N := 49) (args := [.pointer (some ⟨lb, 0, none⟩), .slice a cs.length c]) Tryz.func101 rfl rfl rfl ?_
  refine go ?_
  refine WO.sv rfl ?_
  refine SV.mkMap (enc := (Value.int .i64 : Int → Value)) ?_
  intro hb
  refine go ?_
  have hrl := chRow_len cs f
  refine W.loopS 2199023253648 rfl (fun q : Nat × List (Int × Value) => [(11, .int .i64 (q.1 : Int))]) (fun q => MapH hb (Value.int .i64) q.2 :: LgP lb db g mb :: DevH db d :: R)
    (fun q => q.1 ≤ cs.length ∧ goodN (homeN d g) cs q.1 = true ∧ ∀ k : Int, mget q.2 k = if k ∈ (cs.take q.1).map (·.1) then some (.bool true) else none) (fun q => cs.length - q.1) (0, []) ⟨rfl, trivial⟩ ⟨Nat.zero_le _, rfl, fun k => by simp [mget]⟩ (Ent.app ent) ?_
  rintro ⟨i, l⟩ bg ⟨hi, hgd, hml⟩
  dsimp only at hi hgd hml ⊢
  by_cases h9 : i < cs.length
  rotate_left
  · obtain rfl : i = cs.length := by omega
    have hR : chsR (homeN d g) cs = (decide (1 ≤ cs.length) && decide (cs.length ≤ 70)) := by unfold chsR; rw [hgd, Bool.true_and]
    rw [hR]
    by_cases c1 : 1 ≤ cs.length
    · rw [decide_eq_true c1, Bool.true_and]
      by_cases c2 : cs.length ≤ 70
      · rw [decide_eq_true c2]
        refine go ?_
        exact ⟨rfl, [_], ⟨Res.tmp rfl, trivial⟩, LgP lb db g mb :: DevH db d :: R, ent, rfl, rfl⟩
      · rw [decide_eq_false c2]
        refine go ?_
        exact ⟨rfl, [_], ⟨Res.tmp rfl, trivial⟩, LgP lb db g mb :: DevH db d :: R, ent, rfl, rfl⟩
    · rw [decide_eq_false c1, Bool.false_and]
      refine go ?_
      exact ⟨rfl, [_], ⟨Res.tmp rfl, trivial⟩, LgP lb db g mb :: DevH db d :: R, ent, rfl, rfl⟩
  have hrow := chRow_at cs f h9
  have hbs := r.bs i h9
  have hns := r.ns i h9
  have hts := take_map_succ h9
  have hst : goodN (homeN d g) cs (i + 1) = (goodN (homeN d g) cs i && !nowBad (homeN d g) cs i) := rfl
  have hnb : nowBad (homeN d g) cs i = (decide ((cs.getD i (0, [])).1 < 0) || decide ((homeN d g : Int) ≤ (cs.getD i (0, [])).1) || decide ((cs.getD i (0, [])).1 ∈ (cs.take i).map (·.1)) || decide ((cs.getD i (0, [])).2.length ≠ 256)) := rfl
  have hlen := r.lens i h9
  rw [hgd, Bool.true_and] at hst
  have hbad : nowBad (homeN d g) cs i = true → false = chsR (homeN d g) cs := fun h => by
    rw [h] at hst
    unfold chsR
    rw [goodN_false hst _ h9, Bool.false_and]
  have hmk := hml (cs.getD i (0, [])).1
  unfold chV at hrow
  generalize (cs.getD i (0, [])).1 = N at *
  generalize (cs.getD i (0, [])).2 = s at *
  obtain ⟨b9, o9, rfl⟩ := r.row.at (by omega)
  generalize homeN d g = hm at *
  refine go ?_
  refine WO.sv rfl ?_
  refine SV.loadRN (k := 2) (vs := [.int .i64 N, .slice (f i).1 s.length (f i).2]) (i * 2) rfl r.row.cons.cons.cons (by omega) (by decide) (by rw [hrl]; omega) hrow ?_
  refine go ?_
  intro b7
  refine go ?_
  by_cases c1 : N < 0
  · refine W.drawB #[0, 1, 3, 7, 15, 31, 15, 79, 255, 511, 1023, 2047, 2047, 6143, 16383, 32767, 65535, 131071, 262143, 524287, 1048575, 2097151] [pts b7 (.cells [.int .i64 N, .slice (f i).1 s.length (f i).2].toArray 125)] (MapH hb (Value.int .i64) l :: LgP lb db g mb :: DevH db d :: R) rfl (by kernel_rfl) (by kernel_rfl) (by kernel_rfl) ent ?_
    refine go ?_
    refine ⟨MapH hb (Value.int .i64) l :: LgP lb db g mb :: DevH db d :: R, ent, ?_⟩
    refine go ?_
    exact ⟨rfl, [_], ⟨Res.tmp rfl, trivial⟩, LgP lb db g mb :: DevH db d :: R, ent, congrArg Value.bool (hbad (by rw [hnb, decide_eq_true c1]; rfl)), rfl⟩
  refine W.drawB #[0, 1, 3, 7, 15, 31, 15, 79, 255, 511, 1023, 2047, 2047, 6143, 16383, 32767, 65535, 131071, 262143, 524287, 1048575, 2097151] [pts b7 (.cells [.int .i64 N, .slice (f i).1 s.length (f i).2].toArray 125), MapH hb (Value.int .i64) l] (LgP lb db g mb :: DevH db d :: R) rfl (by kernel_rfl) (by kernel_rfl) (by kernel_rfl) ent ?_
  refine go ?_
  refine DB.callE (vs := [.pointer (some ⟨lb, 0, none⟩)]) Tryz.func65 rfl rfl rfl rfl hl hl (TriE.ent (A := LgP lb db g mb :: DevH db d :: pts b7 (.cells [.int .i64 N, .slice (f i).1 s.length (f i).2].toArray 125) :: MapH hb (Value.int .i64) l :: R) ent (jr_Home lb db mb g d _ hk (by omega))) ?_
  rintro v M ⟨rfl, rfl⟩
  rw [hhome]
  refine ⟨[], LgP lb db g mb :: DevH db d :: R, ent, ?_⟩
  by_cases c2 : (hm : Int) ≤ N
  · refine go ?_
    refine ⟨LgP lb db g mb :: DevH db d :: R, ent, ?_⟩
    refine go ?_
    exact ⟨rfl, [_], ⟨Res.tmp rfl, trivial⟩, LgP lb db g mb :: DevH db d :: R, ent, congrArg Value.bool (hbad (by rw [hnb, decide_eq_true c2, Bool.or_true]; rfl)), rfl⟩
  refine go ?_
  by_cases c3 : N ∈ (cs.take i).map (·.1)
  · refine DB.q (v := .bool true) rfl rfl hl (SV.lookup1 (i := N) (z := .bool false) rfl rfl ⟨_, rfl⟩ (by kernel_rfl) (Tk.there Tk.here) (by rw [hmk, if_pos c3]; exact eqq)) ?_
    refine go ?_
    refine ⟨LgP lb db g mb :: DevH db d :: R, ent, ?_⟩
    refine go ?_
    exact ⟨rfl, [_], ⟨Res.tmp rfl, trivial⟩, LgP lb db g mb :: DevH db d :: R, ent, congrArg Value.bool (hbad (by rw [hnb, decide_eq_true c3, Bool.or_true]; rfl)), rfl⟩
  refine DB.q (v := .bool false) rfl rfl hl (SV.lookup1 (i := N) (z := .bool false) rfl rfl ⟨_, rfl⟩ (by kernel_rfl) (Tk.there Tk.here) (by rw [hmk, if_neg c3]; exact eqq)) ?_
  by_cases c4 : s.length = 256
  rotate_left
  · refine go ?_
    refine ⟨LgP lb db g mb :: DevH db d :: R, ent, ?_⟩
    refine go ?_
    exact ⟨rfl, [_], ⟨Res.tmp rfl, trivial⟩, LgP lb db g mb :: DevH db d :: R, ent, congrArg Value.bool (hbad (by rw [hnb, decide_eq_true c4, Bool.or_true])), rfl⟩
  have hg2 : goodN hm cs (i + 1) = true := by
    rw [hst, hnb, decide_eq_false c1, decide_eq_false c2, decide_eq_false c3, decide_eq_false (fun z => z c4)]; rfl
  refine go ?_
  refine ⟨MapH hb (Value.int .i64) l :: pts b7 (.cells [.int .i64 N, .slice (f i).1 s.length (f i).2].toArray 125) :: LgP lb db g mb :: DevH db d :: R, ent, ?_⟩
  refine go ?_
  refine WO.sv rfl ?_
  refine SV.mapPut (enc := Value.int .i64) (i := N) (v := .bool true) (l := l) rfl rfl rfl ⟨_, rfl⟩ Tk.here ?_
  refine go ?_
  refine ⟨(i + 1, mset l N (.bool true)), ⟨rfl, trivial⟩, rfl, ⟨h9, hg2, fun k => ?_⟩, by dsimp only; omega, Ent.app ent⟩
  dsimp only
  rw [mget_mset, hts, hml k]
  by_cases hkN : k = N
  · rw [if_pos hkN, if_pos (by rw [hkN]; simp)]
  · rw [if_neg hkN]
    by_cases hkm : k ∈ (cs.take i).map (·.1)
    · rw [if_pos hkm, if_pos (List.mem_append_left _ hkm)]
    · rw [if_neg hkm, if_neg (fun z => (List.mem_append.1 z).elim hkm fun y => hkN (List.mem_singleton.1 y))]
end Go.SL

/- Layer 8: marks: the law's known block. -/
namespace Go.SL
open Go.Proofs
set_option linter.unusedVariables false
set_option linter.unusedSimpArgs false
set_option maxRecDepth 10000
set_option maxHeartbeats 4000000
attribute [local irreducible] W WO SV OW SW Tri Ent Tk Has Src SrcK DA DB RdS Own

theorem get_u8 {s : Byt} {i : Nat} {x : UInt8} (h : s[i]? = some x) : (s.map u8V)[i]? = some (u8V x) := by rw [List.getElem?_map, h]; rfl
end Go.SL

/- Layer 8: marks: covering and baring. -/
namespace Go.SL
open Go.Proofs
set_option linter.unusedVariables false
set_option linter.unusedSimpArgs false
set_option maxRecDepth 10000
set_option maxHeartbeats 4000000
attribute [local irreducible] W WO SV OW SW Tri Ent Tk Has Src SrcK DA DB RdS Own

theorem mk_Cover (X : HP) (a : Option Addr) (c : Nat) (s : Byt) (R : List HP) (hb : s.length ≤ 9223372036854775807) (r : RdS 1 a s.length (s.map u8V) [X]) :
    TriE Tryz.prog 153 #[.slice a s.length c] (fun v M =>
      (s.length ≠ 256 ∧ v = .tuple #[.slice none 0 0, u8V 0, .int .i64 2] ∧ M = X :: R) ∨
      (s.length = 256 ∧ ∃ a' c', v = .tuple #[.slice a' (s.set 0 3).length c', u8V (s.getD 0 0), .int .i64 0] ∧ SomeA a' (s.set 0 3).length ∧ M = OS a' c' (s.set 0 3) :: X :: R)) (X :: R) := by
  refine Tri.of (N := 17) (args := [.slice a s.length c]) Tryz.func153 rfl rfl rfl ?_
  refine go ?_
  by_cases h256 : s.length ≠ 256
  · refine go ?_
    exact ⟨rfl, [_, _, _], ⟨Res.tmp rfl, Res.tmp rfl, Res.tmp rfl, trivial⟩, X :: R, ent, .inl ⟨h256, rfl, rfl⟩⟩
  have h2 : s.length = 256 := Classical.not_not.1 h256
  have g0 : (s.map u8V)[0]? = some (u8V (s.getD 0 0)) := by simp [show 0 < s.length by omega]
  obtain ⟨b, o, rfl⟩ := r.at (by omega)
  refine go ?_
  refine WO.callE (vs := [.slice (some ⟨b, o, none⟩) s.length c]) Tryz.func80 rfl rfl rfl rfl (sl_CloneB (some ⟨b, o, none⟩) c s (X :: R) (by omega) (RdS.ent ent r)) ?_
  rintro v M ⟨a', c', rfl, ha', rfl⟩
  obtain ⟨b', rfl⟩ := ha' (by omega)
  refine go ?_
  unfold OS
  refine WO.sv rfl ?_
  refine SV.storeB 0 (u := 3) rfl tk rfl rfl (by omega) rfl ?_
  refine go ?_
  refine W.drawA rfl (by kernel_rfl) (by kernel_rfl) ?_
  refine go ?_
  refine DA.q (v := u8V (s.getD 0 0)) rfl rfl (SV.loadR 0 rfl (RdS.ent ent r) (by omega) g0 eqq) ?_
  refine go ?_
  refine ⟨rfl, [_, _, _], ⟨Res.tmp rfl, Res.tmp rfl, Res.tmp rfl, trivial⟩, _, Ent.refl _, .inr ⟨h2, some ⟨b', 0, none⟩, c', ?_, fun _ => ⟨b', rfl⟩, ?_⟩⟩
  · rw [List.length_set]; rfl
  · rw [List.length_set]
theorem mk_Bare (X : HP) (a : Option Addr) (c : Nat) (s : Byt) (y : UInt8) (R : List HP) (hb : s.length ≤ 9223372036854775807) (r : RdS 1 a s.length (s.map u8V) [X]) :
    TriE Tryz.prog 184 #[.slice a s.length c, u8V y] (fun v M =>
      (s.length ≠ 256 ∧ v = .tuple #[.slice none 0 0, .int .i64 2] ∧ M = X :: R) ∨ (s.length = 256 ∧ s.getD 0 0 ≠ 3 ∧ v = .tuple #[.slice none 0 0, .int .i64 11] ∧ M = X :: R) ∨
      (s.length = 256 ∧ s.getD 0 0 = 3 ∧ ∃ a' c', v = .tuple #[.slice a' (s.set 0 y).length c', .int .i64 0] ∧ SomeA a' (s.set 0 y).length ∧ M = OS a' c' (s.set 0 y) :: X :: R)) (X :: R) := by
  refine Tri.of (N := 22) (args := [.slice a s.length c, u8V y]) Tryz.func184 rfl rfl rfl ?_
  refine go ?_
  by_cases h256 : s.length ≠ 256
  · refine go ?_
    exact ⟨rfl, [_, _], ⟨Res.tmp rfl, Res.tmp rfl, trivial⟩, X :: R, ent, .inl ⟨h256, rfl, rfl⟩⟩
  have h2 : s.length = 256 := Classical.not_not.1 h256
  have g0 : (s.map u8V)[0]? = some (u8V (s.getD 0 0)) := by simp [show 0 < s.length by omega]
  obtain ⟨b, o, rfl⟩ := r.at (by omega)
  refine go ?_
  refine WO.sv rfl ?_
  refine SV.loadR 0 rfl (RdS.ent ent r) (by omega) g0 ?_
  have hy : ∀ x : UInt8, x.toNat = 3 → x = 3 := fun x h => UInt8.toNat_inj.1 h
  by_cases h3 : (s.getD 0 0).toNat = 3
  · have h3' := hy _ h3
    refine go ?_
    refine WO.callE (vs := [.slice (some ⟨b, o, none⟩) s.length c]) Tryz.func80 rfl rfl rfl rfl (sl_CloneB (some ⟨b, o, none⟩) c s (X :: R) (by omega) (RdS.ent ent r)) ?_
    rintro v M ⟨a', c', rfl, ha', rfl⟩
    obtain ⟨b', rfl⟩ := ha' (by omega)
    refine go ?_
    unfold OS
    refine WO.sv rfl ?_
    refine SV.storeB 0 (u := y) rfl tk rfl rfl (by omega) rfl ?_
    refine go ?_
    refine ⟨rfl, [_, _], ⟨Res.tmp rfl, Res.tmp rfl, trivial⟩, _, Ent.refl _, .inr (.inr ⟨h2, h3', some ⟨b', 0, none⟩, c', ?_, fun _ => ⟨b', rfl⟩, ?_⟩)⟩
    · rw [List.length_set]; rfl
    · rw [List.length_set]
  · refine go ?_
    exact ⟨rfl, [_, _], ⟨Res.tmp rfl, Res.tmp rfl, trivial⟩, X :: R, ent, .inr (.inl ⟨h2, fun h => h3 (by rw [h]; rfl), rfl, rfl⟩)⟩
end Go.SL

/- Layer 10 (journal): a transaction is laid, walked. -/
namespace Go.SL
open Go.Proofs
set_option linter.unusedVariables false
set_option linter.unusedSimpArgs false
set_option linter.unusedSectionVars false
set_option maxRecDepth 10000
set_option maxHeartbeats 4000000
theorem toCj {L : List HP} : Ent L [SL.conj L] := Ent.conj (by rw [List.append_nil]; exact Ent.refl _)
theorem ofCj {L : List HP} : Ent [SL.conj L] L := fun h x => by have := has_conj.1 x; rwa [List.append_nil] at this
theorem toCj2 {A B : HP} {L : List HP} : Ent (A :: B :: L) [A, B, SL.conj L] := fun h x => Has.cons_of (fun h x => Has.cons_of toCj x) x
theorem ofCj2 {A B : HP} {L : List HP} : Ent [A, B, SL.conj L] (A :: B :: L) := fun h x => Has.cons_of (fun h x => Has.cons_of ofCj x) x
theorem put_step (d : Dv) (ok : d.Ok) (n : Int) (s : Byt) : (d.put n s).1.Ok ∧ (d.put n s).1.kept.length = d.kept.length ∧ (d.put n s).1.waits.length ≤ d.waits.length + 1 := ⟨Dv.put_ok ok n s, by rw [put_kept], put_waits d n s⟩
theorem flush_step (d : Dv) (ok : d.Ok) : d.flush.1.Ok ∧ d.flush.1.kept.length = d.kept.length ∧ d.flush.1.waits.length ≤ d.waits.length := ⟨Dv.flush_ok ok, flush_kept d ok, flush_waits d⟩
theorem drop_cons {cs : Chs} {i : Nat} (h : i < cs.length) : cs.drop i = cs.getD i (0, []) :: cs.drop (i + 1) := by
  rw [List.getD_eq_getElem?_getD, List.getElem?_eq_getElem h, Option.getD_some, List.getElem_cons_drop]
theorem take_flat {cs : Chs} {i : Nat} (h : i < cs.length) : (cs.take (i + 1)).flatMap chB = (cs.take i).flatMap chB ++ chB (cs.getD i (0, [])) := by
  rw [List.take_succ_eq_append_getElem h, List.flatMap_append, List.getD_eq_getElem?_getD, List.getElem?_eq_getElem h]; simp
theorem chFlat_len (cs : Chs) : (cs.flatMap chB).length = 3 * cs.length := by
  induction cs with
  | nil => rfl
  | cons x l ih => rw [List.flatMap_cons, List.length_append, ih]; simp [chB]; omega
/-- Changes that are right. -/
structure ChOk (home : Nat) (cs : Chs) : Prop where
  n : ∀ i, i < cs.length → 0 ≤ (cs.getD i (0, [])).1 ∧ (cs.getD i (0, [])).1 < home
  s : ∀ i, i < cs.length → (cs.getD i (0, [])).2.length = 256
  l : 1 ≤ cs.length ∧ cs.length ≤ 70
theorem goodN_true {home : Nat} {c : Chs} : ∀ {n : Nat}, goodN home c n = true → ∀ i, i < n → nowBad home c i = false := by
  intro n
  induction n with
  | zero => intro _ i hi; omega
  | succ n ih =>
    intro h i hi
    unfold goodN at h
    rw [Bool.and_eq_true] at h
    by_cases e : i = n
    · subst e; simpa using h.2
    · exact ih h.1 i (by omega)
theorem chsR_ok {home : Nat} {cs : Chs} (h : chsR home cs = true) : ChOk home cs := by
  unfold chsR at h
  rw [Bool.and_eq_true, Bool.and_eq_true, decide_eq_true_eq, decide_eq_true_eq] at h
  have hb := goodN_true h.1
  have key : ∀ i, i < cs.length → 0 ≤ (cs.getD i (0, [])).1 ∧ (cs.getD i (0, [])).1 < home ∧ (cs.getD i (0, [])).2.length = 256 := fun i hi => by
    have := hb i hi
    unfold nowBad at this
    simp only [Bool.or_eq_false_iff, decide_eq_false_iff_not] at this
    obtain ⟨⟨⟨q1, q2⟩, q3⟩, q4⟩ := this
    exact ⟨by omega, by omega, Classical.byContradiction fun z => q4 z⟩
  exact ⟨fun i hi => ⟨(key i hi).1, (key i hi).2.1⟩, fun i hi => (key i hi).2.2, h.2⟩
theorem map_get0 {s : Byt} (h : 0 < s.length) : (s.map u8V)[0]? = some (u8V (s.getD 0 0)) := by
  cases s with
  | nil => simp at h
  | cons x l => rfl
theorem shr8i (N : Nat) : (N : Int).fdiv (2 ^ (min ((8 : Int)).toNat (IntKind.bits .i64))) = ((N / 256 : Nat) : Int) := by
  have e : min ((8 : Int)).toNat (IntKind.bits .i64) = 8 := by decide
  rw [e, Int.fdiv_eq_ediv_of_nonneg _ (by decide)]
  exact_mod_cast rfl
attribute [local irreducible] W WO SV OW SW Tri Ent Tk Has Src SrcK DA DB RdS Own MapH
theorem jr_lay (lb db mb : Nat) (g : Lg) (d0 : Dv) (a : Option Addr) (c : Nat) (cs : Chs) (f : Nat → Option Addr × Nat) (R : List HP) (w : LgW g) (ok0 : d0.Ok) (hwt : d0.waits.length ≤ 1000) (hp : ∀ k, g.place k < d0.kept.length) (co : ChOk 4096 cs) (r0 : ChR a cs f R) :
    TriE Tryz.prog 102 #[.pointer (some ⟨lb, 0, none⟩), .slice a cs.length c] (fun v M => v = .int .i64 (layF d0 g cs).2 ∧ M = LgP lb db g mb :: DevH db (layF d0 g cs).1 :: R) (LgP lb db g mb :: DevH db d0 :: R) := by
  have r : ChR a cs f [SL.conj R] := r0.ent ofCj
  have hcl := co.l
  have hfl := chFlat_len cs
  have hrl := chRow_len cs f
  refine Tri.of (N := 93) (args := [.pointer (some ⟨lb, 0, none⟩), .slice a cs.length c]) Tryz.func102 rfl rfl rfl ?_
  refine W.ent toCj2 ?_
  have hfin : ∀ (d : Dv), Ent [LgP lb db g mb, DevH db d, SL.conj R] (LgP lb db g mb :: DevH db d :: R) := fun d => ofCj2
  clear r0
  generalize hC : SL.conj R = C at *
  refine go ?_
  refine W.loopS 274877382816 rfl (fun q : Nat × Option Addr × Nat => [(19, .int .i64 (q.1 : Int)), (5, .slice q.2.1 ((cs.take q.1).flatMap chB).length q.2.2)]) (fun q => [OS q.2.1 q.2.2 ((cs.take q.1).flatMap chB), LgP lb db g mb, DevH db d0, C])
    (fun q => q.1 ≤ cs.length ∧ SomeA q.2.1 ((cs.take q.1).flatMap chB).length) (fun q => cs.length - q.1) (0, none, 0) ⟨rfl, rfl, trivial⟩ ⟨Nat.zero_le _, fun z => absurd rfl z⟩ (Ent.app (by dsimp only; unfold OS; exact Ent.ownNil ent)) ?_
  rintro ⟨i, a1, c1⟩ bg ⟨hi, ha1⟩
  dsimp only at hi ha1 ⊢
  by_cases h9 : i < cs.length
  · have hrow := chRow_at cs f h9
    have hbs := r.bs i h9
    have hn := co.n i h9
    have hs := co.s i h9
    have htf := take_flat h9
    have hpl : ((cs.take i).flatMap chB).length ≤ 210 := by
      rw [chFlat_len, List.length_take, Nat.min_eq_left hi]; omega
    have hcb : chB (cs.getD i (0, [])) = [UInt8.ofNat ((cs.getD i (0, [])).1.toNat / 256), UInt8.ofNat (cs.getD i (0, [])).1.toNat, (cs.getD i (0, [])).2.getD 0 0] := rfl
    rw [hcb] at htf
    clear hcb
    unfold chV at hrow
    have hb0 : ((cs.getD i (0, [])).2.map u8V)[0]? = some (u8V ((cs.getD i (0, [])).2.getD 0 0)) := by
      exact map_get0 (by rw [hs]; decide)
    obtain ⟨N, hN⟩ : ∃ N : Nat, (cs.getD i (0, [])).1 = N := ⟨_, (Int.toNat_of_nonneg hn.1).symm⟩
    rw [hN] at htf hrow hn
    rw [Int.toNat_natCast] at htf
    generalize (cs.getD i (0, [])).2 = s at *
    generalize (cs.take i).flatMap chB = out at *
    generalize s.getD 0 0 = y at *
    obtain ⟨b9, o9, rfl⟩ := r.row.at (by omega)
    obtain ⟨bs, os, hfa⟩ := hbs.at (by omega)
    rw [hfa] at hbs hrow
    refine go ?_
    refine WO.sv rfl ?_
    refine SV.loadRN (k := 2) (vs := [.int .i64 N, .slice (some ⟨bs, os, none⟩) s.length (f i).2]) (i * 2) rfl r.row.cons.cons.cons (by omega) (by decide) (by rw [hrl]; omega) hrow ?_
    refine go ?_
    intro b7
    refine go ?_
    refine W.drawG (fun _ => false) #[0, 0, 2, 6, 14, 0, 32, 96, 0, 256, 768, 1792, 4094, 8191, 16383] [pts b7 (.cells [.int .i64 N, .slice (some ⟨bs, os, none⟩) s.length (f i).2].toArray 125), C] [OS a1 c1 out, LgP lb db g mb, DevH db d0] rfl (by kernel_rfl) (by kernel_rfl) (by kernel_rfl) ent ?_
    refine go ?_
    refine DB.q (v := .int .i64 ((N / 256 : Nat) : Int)) rfl rfl hl (SV.shr rfl rfl (by decide) (shr8i N) eqq) ?_
    refine DB.q (v := u8V (UInt8.ofNat (N / 256))) rfl rfl hl (SV.convInt rfl (u8_of _) eqq) ?_
    refine go ?_
    rw [u8_of N]
    refine DB.q (v := u8V y) rfl rfl hl (SV.loadR 0 rfl hbs.cons rfl hb0 eqq) ?_
    refine DB.litH rfl rfl rfl parts rfl nl rfl rfl ?_
    intro b2
    refine go ?_
    refine DB.v rfl rfl rfl hl hl ?_
    unfold OS
    refine SV.append rfl rfl rfl tk (RdS.src (RdS.all (sz := 1) (n := 3) rfl).cons.cons) rfl rfl (by omega) rfl ?_
    intro a3 c3 ha3
    have hol : (out ++ [UInt8.ofNat (N / 256), UInt8.ofNat N, y]).length = out.length + 3 := by simp
    refine ⟨[], [Own 5 1 (.slice a3 (out.length + 3) c3) (out.length + 3) (out.map u8V ++ [u8V (UInt8.ofNat (N / 256)), u8V (UInt8.ofNat N), u8V y]), LgP lb db g mb, DevH db d0], ent, ?_⟩
    refine go ?_
    refine ⟨[Own 5 1 (.slice a3 (out.length + 3) c3) (out.length + 3) (out.map u8V ++ [u8V (UInt8.ofNat (N / 256)), u8V (UInt8.ofNat N), u8V y]), LgP lb db g mb, DevH db d0, C], ent, ?_⟩
    refine go ?_
    refine ⟨(i + 1, a3, c3), ⟨rfl, by dsimp only; rw [htf, hol]; rfl, trivial⟩, rfl, ⟨h9, by dsimp only; rw [htf, hol]; exact ha3⟩, by dsimp only; omega, Ent.app ?_⟩
    dsimp only
    rw [htf, hol, List.map_append]
    exact ent
  have hii : i = cs.length := by omega
  subst hii
  rw [List.take_length] at ha1 ⊢
  have hL : layF d0 g cs = andD (sealP d0 g 0 1 (cs.flatMap chB)) fun d => andD (layC g d cs 0) fun d => andD d.flush fun d => andD (sealP d g (1 + cs.length) 2 []) fun d => d.flush := rfl
  rw [hL]
  clear hL
  have hsl : (cs.flatMap chB).length ≤ 220 := by rw [hfl]; omega
  have st1 : (sealP d0 g 0 1 (cs.flatMap chB)).1.Ok ∧ (sealP d0 g 0 1 (cs.flatMap chB)).1.kept.length = d0.kept.length ∧ (sealP d0 g 0 1 (cs.flatMap chB)).1.waits.length ≤ d0.waits.length + 1 := put_step d0 ok0 (g.place 0 : Nat) (sealB 1 g.hd.epoch g.seq (cs.flatMap chB))
  generalize hb : cs.flatMap chB = b at *
  refine go ?_
  refine WO.callE (vs := [.pointer (some ⟨lb, 0, none⟩), .int .i64 (0 : Nat), u8V 1, .slice a1 b.length c1]) Tryz.func152 rfl rfl rfl rfl (TriE.ent (A := LgP lb db g mb :: DevH db d0 :: [OS a1 c1 b, C]) ent (jr_sealed lb db mb 0 g d0 1 a1 c1 b [OS a1 c1 b, C] w (by decide) (by decide) hsl ok0 (by omega) (OS.rd Tk.here ha1))) ?_
  rintro v M ⟨rfl, rfl⟩
  generalize sealP d0 g 0 1 b = q1 at *
  obtain ⟨d1, z1⟩ := q1
  dsimp only at st1 ⊢
  obtain ⟨ok1, hk1, hw1⟩ := st1
  by_cases hz1 : z1 = 0
  rotate_left
  · rw [show andD (d1, z1) _ = (d1, z1) from if_pos hz1]
    refine go ?_
    exact ⟨rfl, [_], ⟨Res.tmp rfl, trivial⟩, LgP lb db g mb :: DevH db d1 :: R, Ent.trans ent (hfin d1), rfl, rfl⟩
  subst hz1
  rw [show ∀ k, andD (d1, 0) k = k d1 from fun k => rfl]
  refine go ?_
  generalize hK : (fun d : Dv => andD d.flush fun d => andD (sealP d g (1 + cs.length) 2 []) fun d => d.flush) = K
  generalize hF : layC g d1 cs 0 = F
  refine W.loopS 4722366412500901068304 rfl (fun q : Nat × Dv => [(46, .int .i64 (q.1 : Int))]) (fun q => [LgP lb db g mb, DevH db q.2, C])
    (fun q => q.1 ≤ cs.length ∧ q.2.Ok ∧ q.2.kept.length = d0.kept.length ∧ q.2.waits.length ≤ 1001 + q.1 ∧ layC g q.2 (cs.drop q.1) q.1 = F) (fun q => cs.length - q.1) (0, d1) ⟨rfl, trivial⟩ ⟨Nat.zero_le _, ok1, hk1, by dsimp only; omega, hF⟩ (Ent.app ent) ?_
  clear hF ok1 hk1 hw1
  rintro ⟨i, d⟩ bg2 ⟨hi, ok, hkd, hwd, he⟩
  dsimp only at hi ok hkd hwd he ⊢
  by_cases h9 : i < cs.length
  · have hrow := chRow_at cs f h9
    have hbs := r.bs i h9
    have hs := co.s i h9
    have hdc := drop_cons h9
    have st := put_step d ok (g.place (1 + i) : Nat) ((cs.getD i (0, [])).2.set 0 3)
    rw [hdc] at he
    have hst : layC g d (cs.getD i (0, []) :: cs.drop (i + 1)) i = if (d.put (g.place (1 + i) : Nat) ((cs.getD i (0, [])).2.set 0 3)).2 ≠ 0 then d.put (g.place (1 + i) : Nat) ((cs.getD i (0, [])).2.set 0 3) else layC g (d.put (g.place (1 + i) : Nat) ((cs.getD i (0, [])).2.set 0 3)).1 (cs.drop (i + 1)) (i + 1) := rfl
    rw [hst] at he
    clear hst hdc
    unfold chV at hrow
    generalize (cs.getD i (0, [])).1 = N at *
    generalize (cs.getD i (0, [])).2 = s at *
    obtain ⟨b9, o9, rfl⟩ := r.row.at (by omega)
    refine go ?_
    refine WO.sv rfl ?_
    refine SV.loadRN (k := 2) (vs := [.int .i64 N, .slice (f i).1 s.length (f i).2]) (i * 2) rfl r.row.cons.cons (by omega) (by decide) (by rw [hrl]; omega) hrow ?_
    refine go ?_
    intro b10
    refine go ?_
    refine WO.callE (vs := [.slice (f i).1 s.length (f i).2]) Tryz.func153 rfl rfl rfl rfl (TriE.ent (A := C :: [LgP lb db g mb, DevH db d]) ent (mk_Cover C (f i).1 (f i).2 s [LgP lb db g mb, DevH db d] (by omega) hbs)) ?_
    rintro v M (⟨h, _⟩ | ⟨_, a4, c4, rfl, ha4, rfl⟩)
    · exact absurd hs h
    have hsl3 : (s.set 0 3).length = 256 := by rw [List.length_set, hs]
    generalize s.set 0 3 = s3 at *
    refine go ?_
    refine W.drawB #[0, 1, 3, 7, 0, 0, 32, 112, 0, 511, 1023] [LgP lb db g mb] [OS a4 c4 s3, C, DevH db d] rfl (by kernel_rfl) (by kernel_rfl) (by kernel_rfl) ent ?_
    refine go ?_
    rw [show (1 : Int) + (i : Int) = ((1 + i : Nat) : Int) by omega]
    refine DB.callE (vs := [.pointer (some ⟨lb, 0, none⟩), .int .i64 (1 + i : Nat)]) Tryz.func154 rfl rfl rfl rfl hl hl (jr_place lb db mb (1 + i) g _ w.l3 w.l4 w.eq w.cur (by omega)) ?_
    rintro v M ⟨rfl, rfl⟩
    refine ⟨[], [OS a4 c4 s3, C, DevH db d], ent, ?_⟩
    refine go ?_
    refine DB.callE (vs := [.pointer (some ⟨db, 0, none⟩), .int .i64 (g.place (1 + i) : Nat), .slice a4 s3.length c4]) Tryz.func103 rfl rfl rfl rfl hl hl (TriE.ent (A := DevH db d :: [OS a4 c4 s3, LgP lb db g mb, C]) ent (dv_Write db d (g.place (1 + i) : Nat) a4 c4 s3 [OS a4 c4 s3, LgP lb db g mb, C] ok (by omega) (by omega) (OS.rd Tk.here ha4))) ?_
    rintro v M ⟨rfl, rfl⟩
    generalize d.put (g.place (1 + i) : Nat) s3 = q at *
    obtain ⟨d2, z⟩ := q
    dsimp only at he st ⊢
    refine ⟨[], [DevH db d2, C], ent, ?_⟩
    refine go ?_
    refine ⟨[LgP lb db g mb, DevH db d2, C], ent, ?_⟩
    by_cases hz : z = 0
    · subst hz
      rw [if_neg (by simp)] at he
      refine go ?_
      exact ⟨(i + 1, d2), ⟨rfl, trivial⟩, rfl, ⟨h9, st.1, by dsimp only; rw [st.2.1, hkd], by dsimp only; omega, he⟩, by dsimp only; omega, Ent.app ent⟩
    · rw [if_pos hz] at he
      subst he
      rw [show andD (d2, z) K = (d2, z) from if_pos hz]
      refine go ?_
      exact ⟨rfl, [_], ⟨Res.tmp rfl, trivial⟩, LgP lb db g mb :: DevH db d2 :: R, Ent.trans ent (hfin d2), rfl, rfl⟩
  have hii : i = cs.length := by omega
  subst hii
  rw [List.drop_length] at he
  have he' : F = (d, 0) := he.symm
  subst he'
  rw [show andD (d, 0) K = K d from rfl, ← hK]
  dsimp only
  clear hK K
  have st2 := flush_step d ok
  refine go ?_
  refine WO.callE (vs := [.pointer (some ⟨db, 0, none⟩)]) Tryz.func104 rfl rfl rfl rfl (TriE.ent (A := DevH db d :: [LgP lb db g mb, C]) ent (dv_Flush db d _ ok (by omega))) ?_
  rintro v M ⟨rfl, rfl⟩
  generalize d.flush = q at *
  obtain ⟨d2, z2⟩ := q
  dsimp only at st2 ⊢
  obtain ⟨ok2, hk2, hw2⟩ := st2
  by_cases hz2 : z2 = 0
  rotate_left
  · rw [show andD (d2, z2) _ = (d2, z2) from if_pos hz2]
    refine go ?_
    exact ⟨rfl, [_], ⟨Res.tmp rfl, trivial⟩, LgP lb db g mb :: DevH db d2 :: R, Ent.trans ent (hfin d2), rfl, rfl⟩
  subst hz2
  rw [show ∀ k, andD (d2, 0) k = k d2 from fun k => rfl]
  have st3 : (sealP d2 g (1 + cs.length) 2 []).1.Ok ∧ (sealP d2 g (1 + cs.length) 2 []).1.kept.length = d2.kept.length ∧ (sealP d2 g (1 + cs.length) 2 []).1.waits.length ≤ d2.waits.length + 1 := put_step d2 ok2 (g.place (1 + cs.length) : Nat) (sealB 2 g.hd.epoch g.seq [])
  refine go ?_
  rw [show (1 : Int) + (cs.length : Int) = ((1 + cs.length : Nat) : Int) by omega]
  refine WO.callE (vs := [.pointer (some ⟨lb, 0, none⟩), .int .i64 (1 + cs.length : Nat), u8V 2, .slice none 0 0]) Tryz.func152 rfl rfl rfl rfl (TriE.ent (A := LgP lb db g mb :: DevH db d2 :: [C]) ent (jr_sealed lb db mb (1 + cs.length) g d2 2 none 0 [] [C] w (by omega) (by decide) (by decide) ok2 (by omega) RdS.nil)) ?_
  rintro v M ⟨rfl, rfl⟩
  generalize sealP d2 g (1 + cs.length) 2 [] = q at *
  obtain ⟨d3, z3⟩ := q
  dsimp only at st3 ⊢
  obtain ⟨ok3, hk3, hw3⟩ := st3
  by_cases hz3 : z3 = 0
  rotate_left
  · rw [show andD (d3, z3) _ = (d3, z3) from if_pos hz3]
    refine go ?_
    exact ⟨rfl, [_], ⟨Res.tmp rfl, trivial⟩, LgP lb db g mb :: DevH db d3 :: R, Ent.trans ent (hfin d3), rfl, rfl⟩
  subst hz3
  rw [show ∀ k, andD (d3, 0) k = k d3 from fun k => rfl]
  refine go ?_
  refine WO.callE (vs := [.pointer (some ⟨db, 0, none⟩)]) Tryz.func104 rfl rfl rfl rfl (TriE.ent (A := DevH db d3 :: [LgP lb db g mb, C]) ent (dv_Flush db d3 _ ok3 (by omega))) ?_
  rintro v M ⟨rfl, rfl⟩
  generalize d3.flush = q at *
  obtain ⟨d4, z4⟩ := q
  refine go ?_
  exact ⟨rfl, [_], ⟨Res.tmp rfl, trivial⟩, LgP lb db g mb :: DevH db d4 :: R, Ent.trans ent (hfin d4), rfl, rfl⟩
end Go.SL
