/- Layer 7: a device: what its functions do, each walked once. -/
import Derived.Test.YthdfbmdfmfndhaaDoorSlJ
import Derived.Test.YthdfbmdfmfndhaaDoorZ1
namespace Go.SL
open Go.Proofs
set_option linter.unusedVariables false
set_option linter.unusedSimpArgs false
set_option maxRecDepth 10000
attribute [local irreducible] W WO SV OW SW Tri Ent Tk Has Src SrcK DA DB RdS Own

theorem sl_CloneStr (a : Option Addr) (n c : Nat) (xs : List Byt) (L : List HP) (hn : n ≤ 1000000) (r : RdS 1 a n (xs.map strV) L) :
    TriE Tryd.prog 46 #[.slice a n c] (fun v M => ∃ a' c', v = .slice a' n c' ∧ SomeA a' n ∧ M = Own 9 1 (.slice a' n c') n (xs.map strV) :: L) L := by
  refine Tri.of (N := 8) (args := [.slice a n c]) Tryd.func46 rfl rfl rfl ?_
  cases a with
  | none =>
    have h0 : n = 0 := Classical.byContradiction fun h0 => by obtain ⟨b, off, e⟩ := r.at h0; cases e
    subst h0
    have hx : xs = [] := by have := r.len; simpa using this
    subst hx
    refine go ?_
    exact ⟨rfl, [_], ⟨Res.tmp rfl, trivial⟩, _, Ent.ownNil (Ent.refl _), none, 0, rfl, fun h => absurd rfl h, rfl⟩
  | some a =>
    refine go ?_
    refine WO.sv rfl ?_
    refine SV.lit0 ?_
    intro b1
    refine go ?_
    refine WO.ent (ent_own (sz := 1) (n := 0) rfl) ?_
    refine WO.sv rfl ?_
    refine SV.append rfl rfl rfl tk (RdS.src r) (by rw [r.len]) (by simp [strV, isCell]) (by omega) rfl ?_
    intro a' c' ha'
    rw [Nat.zero_add, List.nil_append] at *
    refine go ?_
    exact ⟨rfl, [_], ⟨Res.tmp rfl, trivial⟩, _, ent, a', c', rfl, ha', rfl⟩
theorem DevH.close {b : Nat} {d : Dv} {L R : List HP} (x : DvX) (h1 : SomeA x.1 d.kept.length) (h2 : SomeA x.2.2.1 d.now.length) (h3 : SomeA x.2.2.2.2.1 d.waits.length) (e : Ent L (dvL b x d ++ R)) : Ent L (DevH b d :: R) :=
  Ent.closeI (p := fun x : DvX => SomeA x.1 d.kept.length ∧ SomeA x.2.2.1 d.now.length ∧ SomeA x.2.2.2.2.1 d.waits.length) x ⟨h1, h2, h3⟩ e
theorem DevH.opens {P : Program} {g : FuncId} {args : Array Value} {K : Value → List HP → Prop} {b : Nat} {d : Dv} {R : List HP}
    (h : ∀ x : DvX, SomeA x.1 d.kept.length → SomeA x.2.2.1 d.now.length → SomeA x.2.2.2.2.1 d.waits.length → Tri P g args K (dvL b x d ++ R)) : Tri P g args K (DevH b d :: R) :=
  Tri.openI (p := fun x : DvX => SomeA x.1 d.kept.length ∧ SomeA x.2.2.1 d.now.length ∧ SomeA x.2.2.2.2.1 d.waits.length) fun x hx => h x hx.1 hx.2.1 hx.2.2

def zero256 : Byt := List.replicate 256 0
def Dv.new (n : Nat) : Dv := ⟨List.replicate n zero256, List.replicate n zero256, [], -1, false, 0⟩
theorem Dv.new_ok {n : Nat} (h : n ≤ 4096) : (Dv.new n).Ok :=
  ⟨by simp [Dv.new], by simp [Dv.new]; exact h, fun s hs => by rw [List.mem_replicate.1 hs |>.2]; simp [zero256], fun s hs => by rw [List.mem_replicate.1 hs |>.2]; simp [zero256], fun w hw => (by cases hw), by simp [Dv.new], rfl⟩
theorem dv_New (n : Int) (L : List HP) (h1 : 1 ≤ n) (h2 : n ≤ 4096) :
    TriE Tryd.prog 19 #[.int .i64 n] (fun v M => ∃ b, v = .tuple #[.pointer (some ⟨b, 0, none⟩), .int .i64 0] ∧ M = DevH b (Dv.new n.toNat) :: L) L := by
  obtain ⟨m, rfl⟩ : ∃ m : Nat, n = m := ⟨n.toNat, by omega⟩
  refine Tri.of (N := 29) (args := [.int .i64 m]) Tryd.func19 rfl rfl rfl ?_
  refine go ?_
  refine WO.sv rfl ?_
  refine SV.makeSlice rfl (m := 256) rfl (by decide) (by decide) ?_
  intro b1
  refine WO.sv rfl ?_
  refine SV.toStr (bs := zero256) rfl (by simp) ?_ ?_
  · rw [lsub_eq, List.drop_zero, List.take_of_length_le (by simp), zero256, List.map_replicate]; rfl
  refine go ?_
  refine WO.sv rfl ?_
  refine SV.lit rfl rfl rfl parts rfl nl ?_
  intro b2
  refine go ?_
  refine WO.callE (vs := [.slice (some ⟨b2, 0, none⟩) 1 1, .int .i64 m]) Tryd.func45 rfl rfl rfl rfl (sl_Repeat b2 1 m zero256 _ (by omega) (by omega) (RdS.all rfl)) ?_
  rintro v M ⟨b3, rfl, rfl⟩
  refine go ?_
  intro b4
  refine go ?_
  have hm : m ≠ 0 := by omega
  have e0 : List.replicate m (strV zero256) = (List.replicate m zero256).map strV := by rw [List.map_replicate]
  rw [e0]
  refine WO.callE (vs := [.slice (some ⟨b3, 0, none⟩) m m]) Tryd.func46 rfl rfl rfl rfl (sl_CloneStr (some ⟨b3, 0, none⟩) m m (List.replicate m zero256) _ (by omega) (RdS.cons (RdS.own tk (fun _ => ⟨b3, rfl⟩) (by simp)))) ?_
  rintro v M ⟨a5, c5, rfl, h5, rfl⟩
  refine go ?_
  refine ⟨rfl, [_, _], ⟨Res.tmp rfl, Res.tmp rfl, trivial⟩, DevH b4 (Dv.new m) :: L, ?_, b4, rfl, by rw [Int.toNat_natCast]⟩
  refine DevH.close (some ⟨b3, 0, none⟩, m, a5, c5, none, 0) (fun _ => ⟨b3, rfl⟩) (by simpa [Dv.new] using h5) (fun h => absurd rfl h) ?_
  simp only [dvL, Dv.new, List.length_replicate, List.cons_append, List.nil_append]
  refine Ent.take tk (Ent.take tk (Ent.take tk ?_))
  exact Ent.ownNil ent
theorem dv_NewBad (n : Int) (L : List HP) (h : n < 1 ∨ 4096 < n) :
    TriE Tryd.prog 19 #[.int .i64 n] (fun v M => v = .tuple #[.pointer none, .int .i64 2] ∧ M = L) L := by
  refine Tri.of (N := 29) (args := [.int .i64 n]) Tryd.func19 rfl rfl rfl ?_
  by_cases h1 : n < 1
  · refine go ?_
    exact ⟨rfl, [_, _], ⟨Res.tmp rfl, Res.tmp rfl, trivial⟩, _, ent, rfl, rfl⟩
  · refine go ?_
    exact ⟨rfl, [_, _], ⟨Res.tmp rfl, Res.tmp rfl, trivial⟩, _, ent, rfl, rfl⟩
end Go.SL

/- Layer 7: a device: what its functions do, each walked once (2). -/
namespace Go.SL
open Go.Proofs
set_option linter.unusedVariables false
set_option linter.unusedSimpArgs false
set_option maxRecDepth 10000
attribute [local irreducible] W WO SV OW SW Tri Ent Tk Has Src SrcK DA DB RdS Own

@[simp] theorem Dv.call_kept (d : Dv) (may : Bool) : (d.call may).1.kept = d.kept := by unfold Dv.call; split; rfl; split <;> rfl
@[simp] theorem Dv.call_now (d : Dv) (may : Bool) : (d.call may).1.now = d.now := by unfold Dv.call; split; rfl; split <;> rfl
@[simp] theorem Dv.call_waits (d : Dv) (may : Bool) : (d.call may).1.waits = d.waits := by unfold Dv.call; split; rfl; split <;> rfl
theorem Dv.call_err (d : Dv) (may : Bool) : (d.call may).2 = 0 ∨ (d.call may).2 = 1 ∨ (d.call may).2 = 2 ∨ (d.call may).2 = 17 := by
  unfold Dv.call; split; exact .inr (.inl rfl); split; exact .inr (.inr (.inl rfl)); dsimp only; split; exact .inr (.inr (.inr rfl)); exact .inl rfl
theorem Dv.call_zero {d : Dv} {may : Bool} (h : (d.call may).2 = 0) : d.kept.length ≠ 0 ∧ may = true := by
  unfold Dv.call at h
  split at h
  · cases h
  · split at h
    · cases h
    · rename_i h1 h2; exact ⟨h1, by simpa using h2⟩

/-- What a Read answers. -/
def Dv.read (d : Dv) (n : Int) : Dv × Int := d.call (d.is n)
def Dv.put (d : Dv) (n : Int) (s : Byt) : Dv × Int :=
  if (d.call (d.is n && decide (s.length = 256))).2 = 0 then ({ (d.call (d.is n && decide (s.length = 256))).1 with now := d.now.set n.toNat s, waits := d.waits ++ [(n.toNat, s)] }, 0) else d.call (d.is n && decide (s.length = 256))
def Dv.flush (d : Dv) : Dv × Int :=
  if (d.call true).2 = 0 then ({ (d.call true).1 with kept := flushN d.kept d.waits d.waits.length, waits := [] }, 0) else d.call true
def keepN (ks : List Int) (i : Nat) : Nat := (max 0 (min (ks.getD i 0) 256)).toNat
def fallN (kept : List Byt) (waits : List (Nat × Byt)) (ks : List Int) : Nat → List Byt
  | 0 => kept
  | i + 1 => (fallN kept waits ks i).set (waits.getD i (0, [])).1 ((waits.getD i (0, [])).2.take (keepN ks i) ++ ((fallN kept waits ks i).getD (waits.getD i (0, [])).1 []).drop (keepN ks i))
def Dv.fall (d : Dv) (ks : List Int) : Dv :=
  if d.kept.length = 0 then d else ⟨fallN d.kept d.waits ks d.waits.length, fallN d.kept d.waits ks d.waits.length, [], -1, false, d.ops⟩
theorem flushN_len (kept : List Byt) (waits : List (Nat × Byt)) : ∀ i, (flushN kept waits i).length = kept.length
  | 0 => rfl
  | i + 1 => by rw [flushN, List.length_set, flushN_len kept waits i]
theorem fallN_len (kept : List Byt) (waits : List (Nat × Byt)) (ks : List Int) : ∀ i, (fallN kept waits ks i).length = kept.length
  | 0 => rfl
  | i + 1 => by rw [fallN, List.length_set, fallN_len kept waits ks i]
theorem keepN_le (ks : List Int) (i : Nat) : keepN ks i ≤ 256 := by unfold keepN; omega
theorem getD_mem {α : Type} {l : List α} {i : Nat} {x : α} (h : i < l.length) : l.getD i x ∈ l := by
  rw [List.getD_eq_getElem?_getD, List.getElem?_eq_getElem h]; exact List.getElem_mem h
theorem flushN_256 {kept : List Byt} {waits : List (Nat × Byt)} (hk : ∀ s ∈ kept, s.length = 256) (hw : ∀ w ∈ waits, w.2.length = 256) : ∀ i, i ≤ waits.length → ∀ s ∈ flushN kept waits i, s.length = 256
  | 0, _, s, h => hk s h
  | i + 1, hi, s, h => by
    rcases List.mem_or_eq_of_mem_set h with h | h
    · exact flushN_256 hk hw i (by omega) s h
    · rw [h]; exact hw _ (getD_mem (by omega))
theorem fallN_256 {kept : List Byt} {waits : List (Nat × Byt)} {ks : List Int} (hk : ∀ s ∈ kept, s.length = 256) (hw : ∀ w ∈ waits, w.1 < kept.length ∧ w.2.length = 256) : ∀ i, i ≤ waits.length → ∀ s ∈ fallN kept waits ks i, s.length = 256
  | 0, _, s, h => hk s h
  | i + 1, hi, s, h => by
    rcases List.mem_or_eq_of_mem_set h with h | h
    · exact fallN_256 hk hw i (by omega) s h
    · have h1 := hw _ (getD_mem (l := waits) (i := i) (x := (0, [])) (by omega))
      have h2 := fallN_256 hk hw (ks := ks) i (by omega) _ (getD_mem (l := fallN kept waits ks i) (i := (waits.getD i (0, [])).1) (x := []) (by rw [fallN_len]; exact h1.1))
      have := keepN_le ks i
      rw [h, List.length_append, List.length_take, List.length_drop, h1.2, h2]; omega
theorem flushN_app (kept : List Byt) (ws : List (Nat × Byt)) (w : Nat × Byt) : ∀ i, i ≤ ws.length → flushN kept (ws ++ [w]) i = flushN kept ws i
  | 0, _ => rfl
  | i + 1, h => by
    rw [flushN, flushN, flushN_app kept ws w i (by omega)]
    have : (ws ++ [w]).getD i (0, []) = ws.getD i (0, []) := by
      rw [List.getD_eq_getElem?_getD, List.getD_eq_getElem?_getD, List.getElem?_append_left (by omega)]
    rw [this]
theorem flushN_snoc (kept : List Byt) (ws : List (Nat × Byt)) (w : Nat × Byt) : flushN kept (ws ++ [w]) (ws.length + 1) = (flushN kept ws ws.length).set w.1 w.2 := by
  rw [flushN, flushN_app _ _ _ _ (Nat.le_refl _)]
  have : (ws ++ [w]).getD ws.length (0, []) = w := by
    rw [List.getD_eq_getElem?_getD, List.getElem?_append_right (Nat.le_refl _)]; simp
  rw [this]
theorem Dv.put_ok {d : Dv} (ok : d.Ok) (n : Int) (s : Byt) : (d.put n s).1.Ok := by
  have h := Dv.call_ok ok (d.is n && decide (s.length = 256))
  unfold Dv.put
  split
  · rename_i h0
    have hm := (Dv.call_zero h0).2
    simp only [Bool.and_eq_true, decide_eq_true_eq, Dv.is] at hm
    refine ⟨?_, by simpa using ok.size, by simpa using ok.k256, ?_, ?_, h.arm, ?_⟩
    · simp only [List.length_set, Dv.call_kept]; exact ok.now
    · intro t ht
      rcases List.mem_or_eq_of_mem_set ht with q | q
      · exact ok.n256 _ q
      · rw [q]; exact hm.2
    · intro w hw
      simp only [Dv.call_kept]
      rcases List.mem_append.1 hw with q | q
      · exact ok.w256 _ q
      · rw [List.mem_singleton] at q
        subst q
        exact ⟨by dsimp only; omega, hm.2⟩
    · simp only [Dv.call_kept, List.length_append, List.length_singleton]
      rw [flushN_snoc, ok.sync]
  · exact h
theorem Dv.flush_ok {d : Dv} (ok : d.Ok) : d.flush.1.Ok := by
  have h := Dv.call_ok ok true
  unfold Dv.flush
  split
  · exact ⟨by simp only [flushN_len, Dv.call_now]; exact ok.now, by simp only [flushN_len]; exact ok.size, flushN_256 ok.k256 (fun w hw => (ok.w256 w hw).2) _ (Nat.le_refl _), by simpa using ok.n256, fun w hw => (by cases hw), h.arm, by simp only [List.length_nil, flushN, Dv.call_now]; exact ok.sync⟩
  · exact h
theorem Dv.fall_ok {d : Dv} (ok : d.Ok) (ks : List Int) : (d.fall ks).Ok := by
  unfold Dv.fall
  split
  · exact ok
  · exact ⟨rfl, by simp only [fallN_len]; exact ok.size, fallN_256 ok.k256 ok.w256 _ (Nat.le_refl _), fallN_256 ok.k256 ok.w256 _ (Nat.le_refl _), fun w hw => (by cases hw), by simp, rfl⟩

theorem dv_Arm (b : Nat) (d : Dv) (n : Int) (R : List HP) (hn : n ≤ 9223372036854775807) : TriE Tryd.prog 21 #[.pointer (some ⟨b, 0, none⟩), .int .i64 n]
    (fun v M => M = DevH b (if d.kept.length = 0 then d else { d with arm := max (-1) n }) :: R) (DevH b d :: R) := by
  refine DevH.opens fun x h1 h2 h3 => ?_
  have hc := DevH.close (b := b) (R := R) x h1 h2 h3 (Ent.refl _)
  have hc2 := DevH.close (b := b) (d := { d with arm := max (-1) n }) (R := R) x h1 h2 h3 (Ent.refl _)
  obtain ⟨ka, kc, na, nc, wa, wc⟩ := x
  simp only [dvL, List.cons_append, List.nil_append] at hc hc2 ⊢
  refine Tri.of (N := 12) (args := [.pointer (some ⟨b, 0, none⟩), .int .i64 n]) Tryd.func21 rfl rfl rfl ?_
  refine go ?_
  refine WO.callE (vs := [.pointer (some ⟨b, 0, none⟩)]) Tryd.func53 rfl rfl rfl rfl (dv_none b _ _ _ _ _ _ _ _ _ (RdS.all rfl)) ?_
  rintro v M ⟨rfl, rfl⟩
  by_cases h : d.kept.length = 0
  · rw [decide_eq_true h, if_pos h]
    refine go ?_
    exact ⟨rfl, [], trivial, _, hc, rfl⟩
  · rw [decide_eq_false h, if_neg h]
    refine go ?_
    exact ⟨rfl, [], trivial, _, hc2, rfl⟩

theorem mem256 {l : List Byt} (h : ∀ s ∈ l, s.length = 256) {i : Nat} (hi : i < l.length) : (l.getD i []).length = 256 := h _ (getD_mem hi)
theorem getstr {l : List Byt} {i : Nat} (hi : i < l.length) : (l.map strV)[i]? = some (strV (l.getD i [])) := by simp [hi]
theorem dv_Read (b : Nat) (d : Dv) (n : Int) (R : List HP) (ok : d.Ok) :
    TriE Tryd.prog 54 #[.pointer (some ⟨b, 0, none⟩), .int .i64 n]
      (fun v M => ((d.read n).2 ≠ 0 ∧ v = .tuple #[.slice none 0 0, .int .i64 (d.read n).2] ∧ M = DevH b (d.read n).1 :: R) ∨
        ((d.read n).2 = 0 ∧ ∃ a c, v = .tuple #[.slice a 256 c, .int .i64 0] ∧ SomeA a 256 ∧ M = OS a c (d.now.getD n.toNat []) :: DevH b (d.read n).1 :: R)) (DevH b d :: R) := by
  refine DevH.opens fun x h1 h2 h3 => ?_
  have hc := DevH.close (b := b) (d := (d.read n).1) (R := R) x (by simpa [Dv.read] using h1) (by simpa [Dv.read] using h2) (by simpa [Dv.read] using h3) (Ent.refl _)
  have hcall := dv_call b x d (d.is n) R ok.arm
  obtain ⟨ka, kc, na, nc, wa, wc⟩ := x
  unfold Dv.read at hc ⊢
  generalize hdc : d.call (d.is n) = dc at hcall hc ⊢
  have k1 : dc.1.kept = d.kept := by rw [← hdc]; simp
  have k2 : dc.1.now = d.now := by rw [← hdc]; simp
  have k3 : dc.1.waits = d.waits := by rw [← hdc]; simp
  have hz : dc.2 = 0 → d.kept.length ≠ 0 ∧ d.is n = true := fun h => Dv.call_zero (by rw [hdc]; exact h)
  simp only [dvL, List.cons_append, List.nil_append, k1, k2, k3] at hcall hc ⊢
  refine Tri.of (N := 27) (args := [.pointer (some ⟨b, 0, none⟩), .int .i64 n]) Tryd.func54 rfl rfl rfl ?_
  refine go ?_
  refine WO.callE (vs := [.pointer (some ⟨b, 0, none⟩), .int .i64 n]) Tryd.func67 rfl rfl rfl rfl (dv_is b _ _ n _ _ _ _ _ _ _ (RdS.all rfl)) ?_
  rintro v M ⟨rfl, rfl⟩
  rw [show (decide (0 ≤ n) && decide (n < d.kept.length)) = d.is n from rfl]
  refine WO.callE (vs := [.pointer (some ⟨b, 0, none⟩), .bool (d.is n)]) Tryd.func66 rfl rfl rfl rfl hcall ?_
  rintro v M ⟨rfl, rfl⟩
  by_cases he : dc.2 = 0
  · rw [he]
    obtain ⟨hk, his⟩ := hz he
    have hn : 0 ≤ n ∧ n < d.kept.length := by simpa [Dv.is] using his
    have hnow := ok.now
    have hsz := ok.size
    have h256 := mem256 ok.n256 (i := n.toNat) (by omega)
    obtain ⟨nb, rfl⟩ := h2 (by omega)
    have hget := getstr (l := d.now) (i := n.toNat) (by omega)
    generalize d.now.getD n.toNat [] = s at h256 hget ⊢
    refine go ?_
    refine WO.sv rfl ?_
    refine SV.makeSlice rfl (m := 256) rfl (by decide) (by decide) ?_
    intro b1
    refine go ?_
    refine WO.sv rfl ?_
    refine SV.loadR n.toNat rfl (RdS.own tk h2 (by simp)) (by omega) hget ?_
    refine WO.sv rfl ?_
    refine SV.copyP rfl rfl SrcK.str (by simp [u8V, isCell]) (by simp) (.inl (Nat.le_refl _)) (l' := s.map u8V) ?_ (by simp [h256]) rfl ?_
    · rw [h256, Nat.min_self, Nat.mul_one, List.take_of_length_le (by simp [h256]), List.length_map, h256, List.drop_of_length_le (by simp), List.append_nil]
    refine go ?_
    refine ⟨rfl, [_, _], ⟨Res.tmp rfl, Res.tmp rfl, trivial⟩, OS (some ⟨b1, 0, none⟩) 256 s :: DevH b dc.1 :: R, ?_, .inr ⟨rfl, some ⟨b1, 0, none⟩, 256, rfl, fun _ => ⟨b1, rfl⟩, rfl⟩⟩
    refine Ent.trans (ent_own (E := 5) (sz := 1) (n := 256) (by simp [h256])) ?_
    unfold OS
    rw [h256]
    exact Ent.take tk hc
  · refine go ?_
    exact ⟨rfl, [_, _], ⟨Res.tmp rfl, Res.tmp rfl, trivial⟩, _, hc, .inl ⟨he, rfl, rfl⟩⟩
end Go.SL

/- Layer 7: a device: Write, Flush, Fall, Clone, each walked once. -/
namespace Go.SL
open Go.Proofs
set_option linter.unusedVariables false
set_option linter.unusedSimpArgs false
set_option maxRecDepth 10000
attribute [local irreducible] W WO SV OW SW Tri Ent Tk Has Src SrcK DA DB RdS Own

theorem dv_Write (b : Nat) (d : Dv) (n : Int) (a : Option Addr) (c : Nat) (s : Byt) (R : List HP) (ok : d.Ok) (hls : s.length ≤ 9223372036854775807) (hw : d.waits.length ≤ 1000000) (r : RdS 1 a s.length (s.map u8V) R) :
    TriE Tryd.prog 50 #[.pointer (some ⟨b, 0, none⟩), .int .i64 n, .slice a s.length c] (fun v M => v = .int .i64 (d.put n s).2 ∧ M = DevH b (d.put n s).1 :: R) (DevH b d :: R) := by
  refine DevH.opens fun x h1 h2 h3 => ?_
  have hcall := dv_call b x d (d.is n && decide (s.length = 256)) R ok.arm
  have hc := DevH.close (b := b) (d := (d.call (d.is n && decide (s.length = 256))).1) (R := R) x (by simpa using h1) (by simpa using h2) (by simpa using h3) (Ent.refl _)
  obtain ⟨ka, kc, na, nc, wa, wc⟩ := x
  unfold Dv.put
  generalize hdc : d.call (d.is n && decide (s.length = 256)) = dc at hcall hc ⊢
  have k1 : dc.1.kept = d.kept := by rw [← hdc]; simp
  have k2 : dc.1.now = d.now := by rw [← hdc]; simp
  have k3 : dc.1.waits = d.waits := by rw [← hdc]; simp
  have hz : dc.2 = 0 → d.kept.length ≠ 0 ∧ (d.is n && decide (s.length = 256)) = true := fun h => Dv.call_zero (by rw [hdc]; exact h)
  simp only [dvL, List.cons_append, List.nil_append, k1, k2, k3] at hcall hc ⊢
  refine Tri.of (N := 47) (args := [.pointer (some ⟨b, 0, none⟩), .int .i64 n, .slice a s.length c]) Tryd.func50 rfl rfl rfl ?_
  refine go ?_
  refine WO.callE (vs := [.pointer (some ⟨b, 0, none⟩), .int .i64 n]) Tryd.func67 rfl rfl rfl rfl (dv_is b _ _ n _ _ _ _ _ _ _ (RdS.all rfl)) ?_
  rintro v M ⟨rfl, rfl⟩
  rw [show (decide (0 ≤ n) && decide (n < d.kept.length)) = d.is n from rfl]
  cases his : d.is n with
  | false =>
    rw [his, Bool.false_and] at hcall
    have he : dc.2 ≠ 0 := fun h => by have := (hz h).2; rw [his] at this; cases this
    rw [if_neg he]
    refine go ?_
    refine WO.callE (vs := [.pointer (some ⟨b, 0, none⟩), .bool false]) Tryd.func66 rfl rfl rfl rfl hcall ?_
    rintro v M ⟨rfl, rfl⟩
    refine go ?_
    exact ⟨rfl, [_], ⟨Res.tmp rfl, trivial⟩, _, hc, rfl, rfl⟩
  | true =>
    by_cases hs : s.length = 256
    · rw [his, decide_eq_true hs, Bool.true_and] at hcall
      refine go ?_
      refine WO.callE (vs := [.pointer (some ⟨b, 0, none⟩), .bool true]) Tryd.func66 rfl rfl rfl rfl hcall ?_
      rintro v M ⟨rfl, rfl⟩
      by_cases he : dc.2 = 0
      · rw [if_pos he]
        obtain ⟨hk, _⟩ := hz he
        have hn : 0 ≤ n ∧ n < d.kept.length := by simpa [Dv.is] using his
        have hnow := ok.now
        have hsz := ok.size
        obtain ⟨nb, rfl⟩ := h2 (by omega)
        refine go ?_
        refine W.drawA rfl (by kernel_rfl) (by kernel_rfl) ?_
        refine go ?_
        refine DA.q (v := strV s) rfl rfl (SV.toStrR rfl (RdS.cons (RdS.cons (RdS.cons (RdS.cons r)))) eqq) ?_
        refine go ?_
        refine DA.v rfl rfl rfl ?_
        refine SV.storeO n.toNat (v := strV s) (xs' := (d.now.set n.toNat s).map strV) rfl tk (by omega) rfl rfl (by simp; omega) (by rw [List.map_set]) ?_
        refine go ?_
        have hget : ((d.now.set n.toNat s).map strV)[n.toNat]? = some (strV s) := by
          rw [List.getElem?_map, List.getElem?_set]; simp; omega
        have hlw : (d.waits.flatMap wrV).length = d.waits.length * 2 := flat_len (n := 2) (fun _ => rfl) _
        refine W.drawC 18 #[0, 0, 2, 6, 14, 0, 0, 64, 192, 448, 0, 1984, 4032, 8160, 16352, 32766, 65535, 131071, 262143]
          [pts b (.cells [Value.slice ka d.kept.length kc, Value.slice (some ⟨nb, 0, none⟩) d.now.length nc, Value.slice wa d.waits.length wc, .int .i64 dc.1.arm, .bool dc.1.down, .int .i64 dc.1.ops].toArray 96), Own 9 1 (.slice (some ⟨nb, 0, none⟩) d.now.length nc) d.now.length ((d.now.set n.toNat s).map strV)]
          (Own 9 1 (.slice ka d.kept.length kc) d.kept.length (d.kept.map strV) :: Own 103 2 (.slice wa d.waits.length wc) d.waits.length (d.waits.flatMap wrV) :: R) rfl (by kernel_rfl) (by kernel_rfl) (by kernel_rfl) (by kernel_rfl) rfl rfl rfl ent ?_
        refine go ?_
        refine DB.q (v := strV s) rfl rfl hl ?_ ?_
        · refine SV.loadR n.toNat rfl (RdS.own (Tk.there Tk.here) h2 (by simp)) (by omega) hget ?_
          exact eqq
        refine go ?_
        refine DB.lit rfl rfl rfl parts rfl nl rfl rfl ?_
        intro b2
        refine DB.v rfl rfl rfl hl hl ?_
        refine SV.append rfl rfl rfl tk (RdS.src (RdS.all (sz := 2) (n := 1) rfl)) rfl rfl (by omega) rfl ?_
        intro wa' wc' hwa'
        refine ⟨[], Own 103 2 (.slice wa' (d.waits.length + 1) wc') (d.waits.length + 1) (d.waits.flatMap wrV ++ [Value.int .i64 n, strV s]) :: Own 9 1 (.slice ka d.kept.length kc) d.kept.length (d.kept.map strV) :: R, ent, ?_⟩
        refine go ?_
        refine ⟨pts b (.cells [Value.slice ka d.kept.length kc, Value.slice (some ⟨nb, 0, none⟩) d.now.length nc, Value.slice wa d.waits.length wc, .int .i64 dc.1.arm, .bool dc.1.down, .int .i64 dc.1.ops].toArray 96) :: Own 9 1 (.slice (some ⟨nb, 0, none⟩) d.now.length nc) d.now.length ((d.now.set n.toNat s).map strV) ::
          Own 103 2 (.slice wa' (d.waits.length + 1) wc') (d.waits.length + 1) (d.waits.flatMap wrV ++ [Value.int .i64 n, strV s]) :: Own 9 1 (.slice ka d.kept.length kc) d.kept.length (d.kept.map strV) :: R, ent, OW.sv ?_⟩
        refine SV.store rfl rfl cel rfl rfl rfl frz le0 nl ?_
        refine ⟨_, Ent.refl _, ?_⟩
        refine go ?_
        refine ⟨rfl, [_], ⟨Res.tmp rfl, trivial⟩, DevH b ⟨d.kept, d.now.set n.toNat s, d.waits ++ [(n.toNat, s)], dc.1.arm, dc.1.down, dc.1.ops⟩ :: R, ?_, ?_, rfl⟩
        · refine DevH.close (ka, kc, some ⟨nb, 0, none⟩, nc, wa', wc') h1 (fun _ => ⟨nb, rfl⟩) (fun _ => hwa' (by omega)) ?_
          have e1 : (d.waits ++ [(n.toNat, s)]).flatMap wrV = d.waits.flatMap wrV ++ [Value.int .i64 n, strV s] := by
            rw [List.flatMap_append]; simp [wrV, Int.toNat_of_nonneg hn.1]
          simp only [dvL, List.length_set, List.length_append, List.length_singleton, e1, List.cons_append, List.nil_append]
          exact ent
        · rw [he]; rfl
      · rw [if_neg he]
        refine go ?_
        exact ⟨rfl, [_], ⟨Res.tmp rfl, trivial⟩, _, hc, rfl, rfl⟩
    · rw [his, decide_eq_false hs, Bool.true_and] at hcall
      have he : dc.2 ≠ 0 := fun h => by have := (hz h).2; rw [his, decide_eq_false hs] at this; cases this
      rw [if_neg he]
      refine go ?_
      refine WO.callE (vs := [.pointer (some ⟨b, 0, none⟩), .bool false]) Tryd.func66 rfl rfl rfl rfl hcall ?_
      rintro v M ⟨rfl, rfl⟩
      refine go ?_
      exact ⟨rfl, [_], ⟨Res.tmp rfl, trivial⟩, _, hc, rfl, rfl⟩

theorem dv_Flush (b : Nat) (d : Dv) (R : List HP) (ok : d.Ok) (hw : d.waits.length ≤ 1000000000) :
    TriE Tryd.prog 52 #[.pointer (some ⟨b, 0, none⟩)] (fun v M => v = .int .i64 d.flush.2 ∧ M = DevH b d.flush.1 :: R) (DevH b d :: R) := by
  refine DevH.opens fun x h1 h2 h3 => ?_
  have hcall := dv_call b x d true R ok.arm
  have hc := DevH.close (b := b) (d := (d.call true).1) (R := R) x (by simpa using h1) (by simpa using h2) (by simpa using h3) (Ent.refl _)
  obtain ⟨ka, kc, na, nc, wa, wc⟩ := x
  unfold Dv.flush
  generalize hdc : d.call true = dc at hcall hc ⊢
  have k1 : dc.1.kept = d.kept := by rw [← hdc]; simp
  have k2 : dc.1.now = d.now := by rw [← hdc]; simp
  have k3 : dc.1.waits = d.waits := by rw [← hdc]; simp
  simp only [dvL, List.cons_append, List.nil_append, k1, k2, k3] at hcall hc ⊢
  refine Tri.of (N := 33) (args := [.pointer (some ⟨b, 0, none⟩)]) Tryd.func52 rfl rfl rfl ?_
  refine go ?_
  refine WO.callE (vs := [.pointer (some ⟨b, 0, none⟩), .bool true]) Tryd.func66 rfl rfl rfl rfl hcall ?_
  rintro v M ⟨rfl, rfl⟩
  by_cases he : dc.2 = 0
  · rw [if_pos he, he]
    refine go ?_
    have hlw : (d.waits.flatMap wrV).length = d.waits.length * 2 := flat_len (n := 2) (fun _ => rfl) _
    have hlk := flushN_len d.kept d.waits
    refine W.loopS 536838176 rfl (fun i : Nat => [(15, .int .i64 i)])
      (fun i => pts b (.cells [Value.slice ka d.kept.length kc, Value.slice na d.now.length nc, Value.slice wa d.waits.length wc, .int .i64 dc.1.arm, .bool dc.1.down, .int .i64 dc.1.ops].toArray 96) :: Own 9 1 (.slice ka d.kept.length kc) d.kept.length ((flushN d.kept d.waits i).map strV) ::
        Own 9 1 (.slice na d.now.length nc) d.now.length (d.now.map strV) :: Own 103 2 (.slice wa d.waits.length wc) d.waits.length (d.waits.flatMap wrV) :: R) (fun i => i ≤ d.waits.length) (fun i => d.waits.length - i) 0 ⟨rfl, trivial⟩ (Nat.zero_le _) (Ent.app (Ent.refl _)) ?_
    intro i bg hi
    refine go ?_
    refine WO.sv rfl ?_
    refine SV.lssC rfl rfl ?_ ?_
    · intro hlt
      have hi' : i < d.waits.length := by omega
      obtain ⟨wb, rfl⟩ := h3 (by omega)
      have hsub := flat_sub (g := wrV) (n := 2) (fun _ => rfl) d.waits i hi'
      have hwi := ok.w256 _ (List.getElem_mem hi')
      have hgd : d.waits.getD i (0, []) = d.waits[i] := by simp [hi']
      have hfl : flushN d.kept d.waits (i + 1) = (flushN d.kept d.waits i).set d.waits[i].1 d.waits[i].2 := by rw [flushN, hgd]
      generalize d.waits[i] = w at hsub hwi hgd hfl
      obtain ⟨wn, ws⟩ := w
      dsimp only at hwi hfl
      obtain ⟨kb, rfl⟩ := h1 (by omega)
      refine go ?_
      refine WO.sv rfl ?_
      refine SV.loadRN (i * 2) rfl (RdS.own tk h3 hlw) (by simp) (by decide) (by omega) hsub ?_
      refine go ?_
      intro b5
      refine go ?_
      refine W.drawA rfl (by kernel_rfl) (by kernel_rfl) ?_
      refine go ?_
      refine DA.v rfl rfl rfl ?_
      refine SV.storeO wn (v := strV ws) (xs' := (flushN d.kept d.waits (i + 1)).map strV) rfl tk (by omega) rfl rfl (by simp [hlk]; omega) (by rw [hfl, List.map_set]) ?_
      refine go ?_
      exact ⟨i + 1, ⟨rfl, trivial⟩, rfl, by omega, by omega, Ent.app ent⟩
    · intro hlt
      obtain rfl : i = d.waits.length := by omega
      refine go ?_
      refine ⟨rfl, [_], ⟨Res.tmp rfl, trivial⟩, DevH b ⟨flushN d.kept d.waits d.waits.length, d.now, [], dc.1.arm, dc.1.down, dc.1.ops⟩ :: R, ?_, rfl, rfl⟩
      refine DevH.close (ka, kc, na, nc, none, 0) (by rw [hlk]; exact h1) h2 (fun h => absurd rfl h) ?_
      simp only [dvL, hlk, List.cons_append, List.nil_append]
      exact Ent.take tk (Ent.take tk (Ent.take tk (Ent.ownNil ent)))
  · rw [if_neg he]
    refine go ?_
    exact ⟨rfl, [_], ⟨Res.tmp rfl, trivial⟩, _, hc, rfl, rfl⟩
end Go.SL

/- Layer 7: a device: Fall, Clone, each walked once. -/
namespace Go.SL
open Go.Proofs
set_option linter.unusedVariables false
set_option linter.unusedSimpArgs false
set_option maxRecDepth 10000
attribute [local irreducible] W WO SV OW SW Tri Ent Tk Has Src SrcK DA DB RdS Own

theorem fallN_succ {kept : List Byt} {waits : List (Nat × Byt)} {ks : List Int} {i wn : Nat} {ws : Byt} (h : waits.getD i (0, []) = (wn, ws)) :
    fallN kept waits ks (i + 1) = (fallN kept waits ks i).set wn (ws.take (keepN ks i) ++ ((fallN kept waits ks i).getD wn []).drop (keepN ks i)) := by rw [fallN, h]
theorem dv_Fall (b : Nat) (d : Dv) (a : Option Addr) (c : Nat) (ks : List Int) (R : List HP) (ok : d.Ok) (hw : d.waits.length ≤ 1000000000) (hks : ks.length ≤ 9223372036854775807) (r : RdS 1 a ks.length (ks.map (Value.int .i64)) R) :
    TriE Tryd.prog 22 #[.pointer (some ⟨b, 0, none⟩), .slice a ks.length c] (fun v M => M = DevH b (d.fall ks) :: R) (DevH b d :: R) := by
  refine DevH.opens fun x h1 h2 h3 => ?_
  have hc := DevH.close (b := b) (d := d) (R := R) x h1 h2 h3 (Ent.refl _)
  obtain ⟨ka, kc, na, nc, wa, wc⟩ := x
  simp only [dvL, List.cons_append, List.nil_append] at hc ⊢
  refine Tri.of (N := 69) (args := [.pointer (some ⟨b, 0, none⟩), .slice a ks.length c]) Tryd.func22 rfl rfl rfl ?_
  refine go ?_
  refine WO.callE (vs := [.pointer (some ⟨b, 0, none⟩)]) Tryd.func53 rfl rfl rfl rfl (dv_none b _ _ _ _ _ _ _ _ _ (RdS.all rfl)) ?_
  rintro v M ⟨rfl, rfl⟩
  by_cases hk0 : d.kept.length = 0
  · rw [decide_eq_true hk0]
    refine go ?_
    exact ⟨rfl, [], trivial, _, hc, by rw [Dv.fall, if_pos hk0]⟩
  rw [decide_eq_false hk0]
  refine go ?_
  have hlw : (d.waits.flatMap wrV).length = d.waits.length * 2 := flat_len (n := 2) (fun _ => rfl) _
  have hlk := fallN_len d.kept d.waits ks
  have hsz := ok.size
  refine W.loopS 4503599627354224 rfl (fun i : Nat => [(14, .int .i64 i)])
    (fun i => pts b (.cells [Value.slice ka d.kept.length kc, Value.slice na d.now.length nc, Value.slice wa d.waits.length wc, .int .i64 d.arm, .bool d.down, .int .i64 d.ops].toArray 96) :: Own 9 1 (.slice ka d.kept.length kc) d.kept.length ((fallN d.kept d.waits ks i).map strV) ::
      Own 9 1 (.slice na d.now.length nc) d.now.length (d.now.map strV) :: Own 103 2 (.slice wa d.waits.length wc) d.waits.length (d.waits.flatMap wrV) :: R) (fun i => i ≤ d.waits.length) (fun i => d.waits.length - i) 0 ⟨rfl, trivial⟩ (Nat.zero_le _) (Ent.app (Ent.refl _)) ?_
  intro i bg hi
  refine go ?_
  refine WO.sv rfl ?_
  refine SV.lssC rfl rfl ?_ ?_
  · intro hlt
    have hi' : i < d.waits.length := by omega
    obtain ⟨wb, rfl⟩ := h3 (by omega)
    have hsub := flat_sub (g := wrV) (n := 2) (fun _ => rfl) d.waits i hi'
    have hwi := ok.w256 _ (List.getElem_mem hi')
    have hgd : d.waits.getD i (0, []) = d.waits[i] := by simp [hi']
    generalize d.waits[i] = w at hsub hwi hgd
    obtain ⟨wn, ws⟩ := w
    dsimp only at hwi
    have hfl := fallN_succ (kept := d.kept) (ks := ks) hgd
    have hs0 := fallN_256 ok.k256 ok.w256 (ks := ks) i (by omega) _ (getD_mem (l := fallN d.kept d.waits ks i) (i := wn) (x := []) (by rw [hlk]; exact hwi.1))
    have hget := getstr (l := fallN d.kept d.waits ks i) (i := wn) (by rw [hlk]; exact hwi.1)
    generalize (fallN d.kept d.waits ks i).getD wn [] = s0 at hfl hs0 hget
    have hkn := keepN_le ks i
    obtain ⟨kb, rfl⟩ := h1 (by omega)
    refine go ?_
    refine WO.sv rfl ?_
    refine SV.loadRN (i * 2) rfl (RdS.own tk h3 hlw) (by simp) (by decide) (by omega) hsub ?_
    refine go ?_
    intro b5
    refine go ?_
    refine WO.sv rfl ?_
    refine SV.lss rfl rfl ?_
    refine go ?_
    refine W.cut 528482368 rfl (fun _ : Unit => [(6, .int .i64 (keepN ks i))]) (fun _ => pts b5 (.cells [Value.int .i64 wn, strV ws].toArray 103) :: pts b (.cells [Value.slice (some ⟨kb, 0, none⟩) d.kept.length kc, Value.slice na d.now.length nc, Value.slice (some ⟨wb, 0, none⟩) d.waits.length wc, .int .i64 d.arm, .bool d.down, .int .i64 d.ops].toArray 96) ::
      Own 9 1 (.slice (some ⟨kb, 0, none⟩) d.kept.length kc) d.kept.length ((fallN d.kept d.waits ks i).map strV) :: Own 9 1 (.slice na d.now.length nc) d.now.length (d.now.map strV) :: Own 103 2 (.slice (some ⟨wb, 0, none⟩) d.waits.length wc) d.waits.length (d.waits.flatMap wrV) :: R) (fun _ => True) ?_ ?_
    · refine W.if rfl (fun h => ?_) (fun h => ?_)
      · obtain ⟨ab, ao, rfl⟩ := r.at (by omega)
        refine go ?_
        refine WO.sv rfl ?_
        refine SV.loadR i rfl rds (by omega) (v := .int .i64 (ks.getD i 0)) (by simp [show i < ks.length by omega]) ?_
        refine go ?_
        exact ⟨(), ⟨by show Value.int .i64 _ = _; congr 1; unfold keepN; omega, trivial⟩, rfl, trivial, ent⟩
      · refine go ?_
        refine ⟨(), ⟨?_, trivial⟩, rfl, trivial, ent⟩
        have : keepN ks i = 0 := by unfold keepN; rw [List.getD_eq_getElem?_getD, List.getElem?_eq_none (by omega)]; rfl
        rw [this]; rfl
    rintro _ bg2 _
    refine go ?_
    refine W.drawA rfl (by kernel_rfl) (by kernel_rfl) ?_
    refine go ?_
    refine DA.q (v := strV (ws.take (keepN ks i))) rfl rfl (SV.cutStr rfl rfl (cutAt.of rfl rfl) (Nat.zero_le _) (by omega) (by simp) eqq) ?_
    refine go ?_
    refine DA.q (v := strV s0) rfl rfl (SV.loadR wn rfl (RdS.own tk h1 (by simp [hlk])) (by omega) hget eqq) ?_
    refine go ?_
    refine DA.q (v := strV (s0.drop (keepN ks i))) rfl rfl (SV.cutStr rfl (cutAt.of rfl rfl) rfl (by omega) (Nat.le_refl _) (by simp) eqq) ?_
    refine DA.q (v := strV (ws.take (keepN ks i) ++ s0.drop (keepN ks i))) rfl rfl (SV.concat rfl rfl (by simp; omega) eqq) ?_
    refine go ?_
    refine DA.v rfl rfl rfl ?_
    refine SV.storeO wn (v := strV (ws.take (keepN ks i) ++ s0.drop (keepN ks i))) (xs' := (fallN d.kept d.waits ks (i + 1)).map strV) rfl tk (by omega) rfl rfl (by simp [hlk]; omega) (by rw [hfl, List.map_set]) ?_
    refine go ?_
    exact ⟨i + 1, ⟨rfl, trivial⟩, rfl, by omega, by omega, Ent.app ent⟩
  · intro hlt
    obtain rfl : i = d.waits.length := by omega
    have h1' : SomeA ka (fallN d.kept d.waits ks d.waits.length).length := by rw [hlk]; exact h1
    refine go ?_
    refine WO.callE (vs := [.slice ka d.kept.length kc]) Tryd.func46 rfl rfl rfl rfl (sl_CloneStr ka d.kept.length kc (fallN d.kept d.waits ks d.waits.length) _ (by omega) (RdS.own tk h1 (by simp [hlk]))) ?_
    rintro v M ⟨a5, c5, rfl, h5, rfl⟩
    refine go ?_
    refine ⟨rfl, [], trivial, DevH b ⟨fallN d.kept d.waits ks d.waits.length, fallN d.kept d.waits ks d.waits.length, [], -1, false, d.ops⟩ :: R, ?_, by rw [Dv.fall, if_neg hk0]⟩
    refine DevH.close (ka, kc, a5, c5, none, 0) h1' (by rw [hlk]; exact h5) (fun h => absurd rfl h) ?_
    simp only [dvL, hlk, List.cons_append, List.nil_append]
    exact Ent.take tk (Ent.take tk (Ent.take tk (Ent.ownNil ent)))
end Go.SL

/- Layer 7: a device: Clone; devices that nobody made; the law's own functions. -/
namespace Go.SL
open Go.Proofs
set_option linter.unusedVariables false
set_option linter.unusedSimpArgs false
set_option maxRecDepth 10000
attribute [local irreducible] W WO SV OW SW Tri Ent Tk Has Src SrcK DA DB RdS Own

/-! a device that nobody made -/
theorem dv_Arm0 (n : Int) (R : List HP) : TriE Tryd.prog 21 #[.pointer none, .int .i64 n] (fun v M => M = R) R := by
  refine Tri.of (N := 12) (args := [.pointer none, .int .i64 n]) Tryd.func21 rfl rfl rfl ?_
  refine go ?_
  refine WO.callE (vs := [.pointer none]) Tryd.func53 rfl rfl rfl rfl (dv_none0 _) ?_
  rintro v M ⟨rfl, rfl⟩
  refine go ?_
  exact ⟨rfl, [], trivial, _, ent, rfl⟩
theorem dv_Fall0 (x : Value) (R : List HP) : TriE Tryd.prog 22 #[.pointer none, x] (fun v M => M = R) R := by
  refine Tri.of (N := 69) (args := [.pointer none, x]) Tryd.func22 rfl rfl rfl ?_
  refine go ?_
  refine WO.callE (vs := [.pointer none]) Tryd.func53 rfl rfl rfl rfl (dv_none0 _) ?_
  rintro v M ⟨rfl, rfl⟩
  refine go ?_
  exact ⟨rfl, [], trivial, _, ent, rfl⟩
theorem dv_Read0 (n : Int) (R : List HP) : TriE Tryd.prog 54 #[.pointer none, .int .i64 n] (fun v M => v = .tuple #[.slice none 0 0, .int .i64 1] ∧ M = R) R := by
  refine Tri.of (N := 27) (args := [.pointer none, .int .i64 n]) Tryd.func54 rfl rfl rfl ?_
  refine go ?_
  refine WO.callE (vs := [.pointer none, .int .i64 n]) Tryd.func67 rfl rfl rfl rfl (dv_is0 n _) ?_
  rintro v M ⟨rfl, rfl⟩
  refine go ?_
  refine WO.callE (vs := [.pointer none, .bool false]) Tryd.func66 rfl rfl rfl rfl (dv_call0 false _) ?_
  rintro v M ⟨rfl, rfl⟩
  refine go ?_
  exact ⟨rfl, [_, _], ⟨Res.tmp rfl, Res.tmp rfl, trivial⟩, _, ent, rfl, rfl⟩
theorem dv_Write0 (n : Int) (x : Value) (R : List HP) : TriE Tryd.prog 50 #[.pointer none, .int .i64 n, x] (fun v M => v = .int .i64 1 ∧ M = R) R := by
  refine Tri.of (N := 47) (args := [.pointer none, .int .i64 n, x]) Tryd.func50 rfl rfl rfl ?_
  refine go ?_
  refine WO.callE (vs := [.pointer none, .int .i64 n]) Tryd.func67 rfl rfl rfl rfl (dv_is0 n _) ?_
  rintro v M ⟨rfl, rfl⟩
  refine go ?_
  refine WO.callE (vs := [.pointer none, .bool false]) Tryd.func66 rfl rfl rfl rfl (dv_call0 false _) ?_
  rintro v M ⟨rfl, rfl⟩
  refine go ?_
  exact ⟨rfl, [_], ⟨Res.tmp rfl, trivial⟩, _, ent, rfl, rfl⟩
theorem dv_Flush0 (R : List HP) : TriE Tryd.prog 52 #[.pointer none] (fun v M => v = .int .i64 1 ∧ M = R) R := by
  refine Tri.of (N := 33) (args := [.pointer none]) Tryd.func52 rfl rfl rfl ?_
  refine go ?_
  refine WO.callE (vs := [.pointer none, .bool true]) Tryd.func66 rfl rfl rfl rfl (dv_call0 true _) ?_
  rintro v M ⟨rfl, rfl⟩
  refine go ?_
  exact ⟨rfl, [_], ⟨Res.tmp rfl, trivial⟩, _, ent, rfl, rfl⟩

/-! a block all bytes of which are one -/
theorem list_fill {c : Value} (k m : Nat) (z : Value) (h : k < m) : (List.replicate k c ++ List.replicate (m - k) z).set k c = List.replicate (k + 1) c ++ List.replicate (m - (k + 1)) z := by
  rw [List.set_append_right _ _ (by simp), List.length_replicate, Nat.sub_self]
  obtain ⟨j, rfl⟩ : ∃ j, m = k + 1 + j := ⟨m - (k + 1), by omega⟩
  rw [show k + 1 + j - k = j + 1 by omega, show k + 1 + j - (k + 1) = j by omega, List.replicate_succ, List.set_cons_zero, List.replicate_succ', List.append_assoc]; rfl
end Go.SL

/- Layer 7: the law DevNobody, walked. -/
namespace Go.SL
open Go.Proofs
set_option linter.unusedVariables false
set_option linter.unusedSimpArgs false
set_option maxRecDepth 10000
attribute [local irreducible] W WO SV OW SW Tri Ent Tk Has Src SrcK DA DB RdS Own

def rep (c : UInt8) : Byt := List.replicate 256 c
theorem rep_len (c : UInt8) : (rep c).length = 256 := List.length_replicate
def o1 : Dv := ((Dv.new 2).put 0 (rep 1)).1
def o2 : Dv := o1.flush.1
def o3 : Dv := (o2.put 0 (rep 2)).1
def o4 : Dv := (o3.put 1 (rep 3)).1
def o5 : Dv := o4.fall [1]
theorem o_ok : o1.Ok ∧ o2.Ok ∧ o3.Ok ∧ o4.Ok ∧ o5.Ok := by
  have h1 : o1.Ok := Dv.put_ok (Dv.new_ok (by decide)) _ _
  have h2 : o2.Ok := Dv.flush_ok h1
  have h3 : o3.Ok := Dv.put_ok h2 _ _
  have h4 : o4.Ok := Dv.put_ok h3 _ _
  exact ⟨h1, h2, h3, h4, Dv.fall_ok h4 _⟩
theorem o_w : (Dv.new 2).waits.length ≤ 1000000 ∧ o1.waits.length ≤ 1000000 ∧ o2.waits.length ≤ 1000000 ∧ o3.waits.length ≤ 1000000 ∧ o4.waits.length ≤ 1000000 := by
  refine ⟨?_, ?_, ?_, ?_, ?_⟩ <;> decide +kernel
theorem o_r0 : (o5.read 0).2 = 0 := by decide +kernel
theorem o_r1 : ((o5.read 0).1.read 1).2 = 0 := by decide +kernel
theorem o_s0 : ∃ t, o5.now.getD (0 : Int).toNat [] = 2 :: 1 :: t := ⟨List.replicate 254 1, by decide +kernel⟩
theorem o_s1 : ∃ t, (o5.read 0).1.now.getD (1 : Int).toNat [] = 0 :: t := ⟨List.replicate 255 0, by decide +kernel⟩
theorem o_5 : (o5.now.getD (0 : Int).toNat []).length = 256 ∧ ((o5.read 0).1.now.getD (1 : Int).toNat []).length = 256 := by constructor <;> decide +kernel

def Dv.zero : Dv := ⟨[], [], [], 0, false, 0⟩
theorem Dv.zero_ok : Dv.zero.Ok := ⟨rfl, by decide, fun s h => (by cases h), fun s h => (by cases h), fun w h => (by cases h), by decide, rfl⟩
theorem DevH.zero (b : Nat) (L : List HP) : Ent (pts b (.cells [Value.slice none 0 0, Value.slice none 0 0, Value.slice none 0 0, Value.int .i64 0, Value.bool false, Value.int .i64 0].toArray 96) :: L) (DevH b Dv.zero :: L) :=
  DevH.close (none, 0, none, 0, none, 0) (fun h => absurd rfl h) (fun h => absurd rfl h) (fun h => absurd rfl h) (Ent.take tk (Ent.ownNil (Ent.ownNil (Ent.ownNil (Ent.refl _)))))
end Go.SL

/- Layer 7: the law DevNobody, walked. -/
namespace Go.SL
open Go.Proofs
set_option linter.unusedVariables false
set_option linter.unusedSimpArgs false
set_option maxRecDepth 10000
attribute [local irreducible] W WO SV OW SW Tri Ent Tk Has Src SrcK DA DB RdS Own

theorem dv_LenH (b : Nat) (d : Dv) (R : List HP) : TriE Tryd.prog 47 #[.pointer (some ⟨b, 0, none⟩)] (fun v M => v = .int .i64 d.kept.length ∧ M = DevH b d :: R) (DevH b d :: R) := by
  refine DevH.opens fun x h1 h2 h3 => ?_
  have hc := DevH.close (b := b) (R := R) x h1 h2 h3 (Ent.refl _)
  obtain ⟨ka, kc, na, nc, wa, wc⟩ := x
  simp only [dvL, List.cons_append, List.nil_append] at hc ⊢
  refine Tri.mono (dv_Len b d.kept.length kc ka _ _ _ _ _ _ (RdS.all rfl)) ?_
  rintro v L' ⟨M, e, rfl, rfl⟩
  exact ⟨_, Ent.trans e hc, rfl, rfl⟩

end Go.SL

/- Layer 9: a head is saved, walked. -/
namespace Go.SL
open Go.Proofs
set_option linter.unusedVariables false
set_option linter.unusedSimpArgs false
set_option maxRecDepth 10000
set_option maxHeartbeats 4000000
attribute [local irreducible] W WO SV OW SW Tri Ent Tk Has Src SrcK DA DB RdS Own DevH

def saveS (d : Dv) (h : Hd) : Dv × Int :=
  if d.kept.length = 0 then (d, 1) else if HdR h d.kept.length then (if (d.put ((h.gen % 2 : Nat) : Int) h.put).2 = 0 then (d.put ((h.gen % 2 : Nat) : Int) h.put).1.flush else d.put ((h.gen % 2 : Nat) : Int) h.put) else (d, 2)
theorem HdR.mono {h : Hd} {b c : Int} (r : HdR h b) (e : b ≤ c) : HdR h c := by unfold HdR at *; omega
theorem put_waits (d : Dv) (n : Int) (s : Byt) : (d.put n s).1.waits.length ≤ d.waits.length + 1 := by
  unfold Dv.put
  split
  · simp
  · unfold Dv.call
    split
    · simp
    · split <;> simp
theorem h9_Save (b : Nat) (d : Dv) (h : Hd) (R : List HP) (ok : d.Ok) (hw : d.waits.length ≤ 100000) (fit : h.Fit) :
    TriE Tryd.prog 20 #[.pointer (some ⟨b, 0, none⟩), .agg h.L.toArray] (fun v M => v = .int .i64 (saveS d h).2 ∧ M = DevH b (saveS d h).1 :: R) (DevH b d :: R) := by
  have hlen := ok.size
  have hRi := fun L => h9_Right h d.kept.length L (by omega)
  have hSl := fun L => h9_slot h L
  have hPu := fun L => h9_Put h L fit
  have hpl : h.put.length = 256 := sealB_len (h.enc_len fit)
  unfold saveS
  obtain ⟨g, e, p, s, l⟩ := h
  generalize hHp : Hd.put ⟨g, e, p, s, l⟩ = hp at *
  refine Tri.of (N := 33) (args := [.pointer (some ⟨b, 0, none⟩), .agg (hdL g e p s l).toArray]) Tryd.func20 rfl rfl rfl ?_
  refine go ?_
  intro b3
  refine go ?_
  refine WO.callE (vs := [.pointer (some ⟨b, 0, none⟩)]) Tryd.func47 rfl rfl rfl rfl (TriE.ent ent (dv_LenH b d (pts b3 (.cells (hdL g e p s l).toArray 53) :: R))) ?_
  rintro v M ⟨rfl, rfl⟩
  by_cases h0 : d.kept.length = 0
  · rw [if_pos h0]
    refine go ?_
    exact ⟨rfl, [_], ⟨Res.tmp rfl, trivial⟩, DevH b d :: R, ent, rfl, rfl⟩
  rw [if_neg h0]
  refine go ?_
  refine W.drawB #[0, 0, 2, 7, 15, 31] [pts b3 (.cells (hdL g e p s l).toArray 53)] (DevH b d :: R) rfl (by kernel_rfl) (by kernel_rfl) (by kernel_rfl) ent ?_
  refine go ?_
  refine DB.callE (vs := [.pointer (some ⟨b, 0, none⟩)]) Tryd.func47 rfl rfl rfl rfl hl hl (TriE.ent ent (dv_LenH b d (pts b3 (.cells (hdL g e p s l).toArray 53) :: R))) ?_
  rintro v M ⟨rfl, rfl⟩
  refine ⟨[], DevH b d :: R, ent, ?_⟩
  refine go ?_
  refine DB.callE (vs := [.agg (hdL g e p s l).toArray, .int .i64 d.kept.length]) Tryd.func48 rfl rfl rfl rfl hl hl (hRi _) ?_
  rintro v M ⟨rfl, rfl⟩
  refine ⟨[], DevH b d :: R, ent, ?_⟩
  by_cases hr : HdR ⟨g, e, p, s, l⟩ d.kept.length
  rotate_left
  · rw [decide_eq_false hr, if_neg hr]
    refine go ?_
    refine ⟨DevH b d :: R, ent, ?_⟩
    refine go ?_
    exact ⟨rfl, [_], ⟨Res.tmp rfl, trivial⟩, DevH b d :: R, ent, rfl, rfl⟩
  rw [decide_eq_true hr, if_pos hr]
  have hr2 := hr.mono (c := 4096) (by omega)
  refine go ?_
  refine ⟨DevH b d :: pts b3 (.cells (hdL g e p s l).toArray 53) :: R, ent, ?_⟩
  refine go ?_
  refine WO.callE (vs := [.agg (hdL g e p s l).toArray]) Tryd.func49 rfl rfl rfl rfl (hPu _) ?_
  rintro v M (⟨h, _⟩ | ⟨_, a5, c5, rfl, s5, rfl⟩)
  · exact absurd hr2 h
  refine go ?_
  refine WO.callE (vs := [.agg (hdL g e p s l).toArray]) Tryd.func51 rfl rfl rfl rfl (hSl _) ?_
  rintro v M ⟨rfl, rfl⟩
  refine go ?_
  refine WO.callE (vs := [.pointer (some ⟨b, 0, none⟩), .int .i64 ((g % 2 : Nat) : Int), .slice a5 hp.length c5]) Tryd.func50 rfl rfl rfl rfl
    (TriE.ent ent (dv_Write b d ((g % 2 : Nat) : Int) a5 c5 hp (OS a5 c5 hp :: pts b3 (.cells (hdL g e p s l).toArray 53) :: R) ok (by omega) (by omega) (OS.rd Tk.here s5))) ?_
  rintro v M ⟨rfl, rfl⟩
  have hpw := put_waits d ((g % 2 : Nat) : Int) hp
  have hpo := Dv.put_ok ok ((g % 2 : Nat) : Int) hp
  dsimp only
  generalize d.put ((g % 2 : Nat) : Int) hp = w at *
  by_cases hz : w.2 = 0
  rotate_left
  · rw [if_neg hz]
    refine go ?_
    exact ⟨rfl, [_], ⟨Res.tmp rfl, trivial⟩, DevH b w.1 :: R, ent, rfl, rfl⟩
  rw [if_pos hz]
  refine go ?_
  refine WO.callE (vs := [.pointer (some ⟨b, 0, none⟩)]) Tryd.func52 rfl rfl rfl rfl (dv_Flush b w.1 _ hpo (by omega)) ?_
  rintro v M ⟨rfl, rfl⟩
  refine go ?_
  exact ⟨rfl, [_], ⟨Res.tmp rfl, trivial⟩, DevH b w.1.flush.1 :: R, ent, rfl, rfl⟩
end Go.SL

/- Layer 9: a head is loaded, walked. -/
namespace Go.SL
open Go.Proofs
set_option linter.unusedVariables false
set_option linter.unusedSimpArgs false
set_option maxRecDepth 10000
set_option maxHeartbeats 4000000
attribute [local irreducible] W WO SV OW SW Tri Ent Tk Has Src SrcK DA DB RdS Own DevH

/-- The greater head, of a block that may be one. -/
def pickH (last : Hd) (s : Byt) (n : Nat) (len : Int) : Hd := if hdOk s len = true ∧ (hdOf s len).gen % 2 = n ∧ last.gen < (hdOf s len).gen then hdOf s len else last
def loadN (d : Dv) : Nat → Dv × Hd × Int
  | 0 => (d, Hd.zero, 0)
  | n + 1 => if (loadN d n).2.2 ≠ 0 then loadN d n else if ((loadN d n).1.read n).2 ≠ 0 then (((loadN d n).1.read n).1, Hd.zero, ((loadN d n).1.read n).2) else
      (((loadN d n).1.read n).1, pickH (loadN d n).2.1 ((loadN d n).1.now.getD n []) n d.kept.length, 0)
def loadS (d : Dv) : Dv × Hd × Int :=
  if d.kept.length = 0 then (d, Hd.zero, 1) else
    if (loadN d (min 2 d.kept.length)).2.2 ≠ 0 then loadN d (min 2 d.kept.length)
    else if (loadN d (min 2 d.kept.length)).2.1.gen = 0 then ((loadN d (min 2 d.kept.length)).1, Hd.zero, 13) else loadN d (min 2 d.kept.length)
theorem read_kept (d : Dv) (n : Int) : (d.read n).1.kept = d.kept ∧ (d.read n).1.now = d.now ∧ (d.read n).1.waits = d.waits := by
  unfold Dv.read Dv.call
  split
  · exact ⟨rfl, rfl, rfl⟩
  · split <;> exact ⟨rfl, rfl, rfl⟩
theorem pickH_ok {last : Hd} {s : Byt} {n : Nat} {len : Int} (h : last = Hd.zero ∨ 1 ≤ last.gen) : pickH last s n len = Hd.zero ∨ 1 ≤ (pickH last s n len).gen := by
  unfold pickH
  split
  · rename_i g; right; omega
  · exact h
theorem loadN_ok (d : Dv) (ok : d.Ok) : ∀ n, (loadN d n).1.Ok ∧ (loadN d n).1.kept = d.kept ∧ (loadN d n).1.now = d.now ∧ (loadN d n).1.waits = d.waits ∧ ((loadN d n).2.1 = Hd.zero ∨ 1 ≤ (loadN d n).2.1.gen)
  | 0 => ⟨ok, rfl, rfl, rfl, .inl rfl⟩
  | n + 1 => by
    obtain ⟨a, b, c, d', e⟩ := loadN_ok d ok n
    obtain ⟨r1, r2, r3⟩ := read_kept (loadN d n).1 n
    unfold loadN
    split
    · exact ⟨a, b, c, d', e⟩
    · split
      · exact ⟨Dv.call_ok a _, r1.trans b, r2.trans c, r3.trans d', .inl rfl⟩
      · exact ⟨Dv.call_ok a _, r1.trans b, r2.trans c, r3.trans d', pickH_ok e⟩
theorem loadN_err (d : Dv) : ∀ n, (loadN d n).2.2 ≠ 0 → (loadN d n).2.1 = Hd.zero
  | 0, h => absurd rfl h
  | n + 1, h => by
    unfold loadN at h ⊢
    split at h
    · rename_i g; rw [if_pos g]; exact loadN_err d n g
    · rename_i g
      rw [if_neg g]
      split at h
      · rename_i g2; rw [if_pos g2]
      · exact absurd rfl h
theorem h9_Load (b : Nat) (d : Dv) (R : List HP) (ok : d.Ok) :
    TriE Tryd.prog 23 #[.pointer (some ⟨b, 0, none⟩)] (fun v M => v = .tuple #[.agg (loadS d).2.1.L.toArray, .int .i64 (loadS d).2.2] ∧ M = DevH b (loadS d).1 :: R) (DevH b d :: R) := by
  have hlen := ok.size
  have hzl : Hd.zero.L = hdL 0 0 0 0 0 := rfl
  refine Tri.of (N := 58) (args := [.pointer (some ⟨b, 0, none⟩)]) Tryd.func23 rfl rfl rfl ?_
  refine go ?_
  intro b2
  refine go ?_
  refine WO.callE (vs := [.pointer (some ⟨b, 0, none⟩)]) Tryd.func47 rfl rfl rfl rfl (TriE.ent ent (dv_LenH b d (pts b2 (.cells (hdL 0 0 0 0 0).toArray 53) :: R))) ?_
  rintro v M ⟨rfl, rfl⟩
  by_cases h0 : d.kept.length = 0
  · have e : loadS d = (d, Hd.zero, 1) := by unfold loadS; rw [if_pos h0]
    rw [e]
    refine go ?_
    exact ⟨rfl, [_, _], ⟨Res.cell rfl le0 nl, Res.tmp rfl, trivial⟩, DevH b d :: R, ent, rfl, rfl⟩
  refine go ?_
  intro b4
  refine go ?_
  refine WO.callE (vs := [.pointer (some ⟨b, 0, none⟩)]) Tryd.func47 rfl rfl rfl rfl (TriE.ent ent (dv_LenH b d (pts b4 (.cells (hdL 0 0 0 0 0).toArray 53) :: pts b2 (.cells (hdL 0 0 0 0 0).toArray 53) :: R))) ?_
  rintro v M ⟨rfl, rfl⟩
  have hmin : min (2 : Int) (d.kept.length : Int) = ((min 2 d.kept.length : Nat) : Int) := by omega
  have hS : loadS d = if (loadN d (min 2 d.kept.length)).2.2 ≠ 0 then loadN d (min 2 d.kept.length)
    else if (loadN d (min 2 d.kept.length)).2.1.gen = 0 then ((loadN d (min 2 d.kept.length)).1, Hd.zero, 13) else loadN d (min 2 d.kept.length) := by unfold loadS; rw [if_neg h0]
  have hm2 : min 2 d.kept.length ≤ d.kept.length := by omega
  have hstay : ∀ n m, n ≤ m → (loadN d n).2.2 ≠ 0 → loadN d m = loadN d n := by
    intro n m h hne
    obtain ⟨k, rfl⟩ : ∃ k, m = n + k := ⟨m - n, by omega⟩
    clear h
    induction k with
    | zero => rfl
    | succ k ih =>
      rw [show n + (k + 1) = (n + k) + 1 by omega]
      conv => lhs; unfold loadN
      rw [ih, if_pos hne]
  refine go ?_
  refine W.loopS 9007199254610920 rfl (fun n : Nat => [(17, .int .i64 (n : Int))]) (fun n => DevH b (loadN d n).1 :: pts b4 (.cells (loadN d n).2.1.L.toArray 53) :: pts b2 (.cells (hdL 0 0 0 0 0).toArray 53) :: R) (fun n => n ≤ min 2 d.kept.length ∧ (loadN d n).2.2 = 0) (fun n => 2 - n) 0 ⟨rfl, trivial⟩ ⟨Nat.zero_le _, rfl⟩ (Ent.app ent) ?_
  rintro n bg ⟨hn, he⟩
  obtain ⟨k1, k2, k3, k4, k5⟩ := loadN_ok d ok n
  have hn1 : loadN d (n + 1) = if (loadN d n).2.2 ≠ 0 then loadN d n else if ((loadN d n).1.read n).2 ≠ 0 then (((loadN d n).1.read n).1, Hd.zero, ((loadN d n).1.read n).2) else
      (((loadN d n).1.read n).1, pickH (loadN d n).2.1 ((loadN d n).1.now.getD n []) n d.kept.length, 0) := rfl
  rw [if_neg (by rw [he]; simp)] at hn1
  by_cases hlt : n < min 2 d.kept.length
  · have hst := hstay (n + 1) (min 2 d.kept.length) (by omega)
    generalize loadN d n = x at *
    obtain ⟨x1, ⟨lg, lE, lp, lq, ll⟩, xe⟩ := x
    dsimp only at he k1 k2 k3 k4 k5 hn1
    dsimp only [Hd.L]
    obtain ⟨r1, r2, r3⟩ := read_kept x1 n
    have hR := fun R => dv_Read b x1 n R k1
    have hsl : (x1.now.getD n []).length = 256 := by
      have h1 : n < x1.now.length := by rw [k1.now, k2]; omega
      have : x1.now.getD n [] = x1.now[n] := by simp [h1]
      rw [this]
      exact k1.n256 _ (List.getElem_mem h1)
    rw [Int.toNat_natCast] at hR
    generalize x1.now.getD n [] = s at *
    generalize x1.read n = r at *
    refine go ?_
    refine WO.callE (vs := [.pointer (some ⟨b, 0, none⟩), .int .i64 n]) Tryd.func54 rfl rfl rfl rfl (hR _) ?_
    rintro v M (⟨g1, rfl, rfl⟩ | ⟨g1, a6, c6, rfl, s6, rfl⟩)
    · rw [if_pos g1] at hn1
      rw [hn1] at hst
      have hst := hst g1
      rw [hst, if_pos g1] at hS
      rw [hS]
      refine go ?_
      exact ⟨rfl, [_, _], ⟨Res.cell rfl le0 nl, Res.tmp rfl, trivial⟩, DevH b r.1 :: R, ent, rfl, rfl⟩
    · rw [if_neg (fun g => g g1)] at hn1
      rw [← hsl] at s6 ⊢
      refine go ?_
      refine WO.ownCap (E := 5) (sz := 1) (n := s.length) (xs := s.map u8V) (show Tk _ (OS a6 c6 s) _ from tk) fun hcap => ?_
      refine WO.callE (vs := [.pointer (some ⟨b, 0, none⟩)]) Tryd.func47 rfl rfl rfl rfl (TriE.ent ent (dv_LenH b r.1 (OS a6 c6 s :: pts b4 (.cells (hdL lg lE lp lq ll).toArray 53) :: pts b2 (.cells (hdL 0 0 0 0 0).toArray 53) :: R))) ?_
      rintro v M ⟨rfl, rfl⟩
      rw [r1, k2]
      refine WO.callE (vs := [.slice a6 s.length c6, .int .i64 d.kept.length]) Tryd.func55 rfl rfl rfl rfl (TriE.ent ent (h9_Of (OS a6 c6 s) a6 c6 s d.kept.length (DevH b r.1 :: pts b4 (.cells (hdL lg lE lp lq ll).toArray 53) :: pts b2 (.cells (hdL 0 0 0 0 0).toArray 53) :: R) (by omega) (by omega) hcap (OS.rd Tk.here s6))) ?_
      rintro v M ⟨rfl, rfl⟩
      have hslt := fun L => h9_slot (hdOf s d.kept.length) L
      have hpk : pickH ⟨lg, lE, lp, lq, ll⟩ s n d.kept.length = if hdOk s d.kept.length = true ∧ (hdOf s d.kept.length).gen % 2 = n ∧ lg < (hdOf s d.kept.length).gen then hdOf s d.kept.length else ⟨lg, lE, lp, lq, ll⟩ := rfl
      rw [hpk] at hn1
      generalize hdOf s d.kept.length = hh at *
      generalize hdOk s d.kept.length = hok at *
      obtain ⟨g, e, p, q, l⟩ := hh
      dsimp only at hn1
      dsimp only [Hd.L] at hslt ⊢
      refine go ?_
      intro b8
      cases hok with
      | false =>
        rw [if_neg (by simp)] at hn1
        refine go ?_
        refine ⟨n + 1, ⟨rfl, trivial⟩, rfl, ⟨by omega, by rw [hn1]⟩, by omega, Ent.app ?_⟩
        rw [hn1]
        exact ent
      | true =>
        refine go ?_
        refine WO.callE (vs := [.agg (hdL g e p q l).toArray]) Tryd.func51 rfl rfl rfl rfl (hslt _) ?_
        rintro v M ⟨rfl, rfl⟩
        by_cases hg : g % 2 = n
        · by_cases hgt : lg < g
          · rw [if_pos ⟨rfl, hg, hgt⟩] at hn1
            refine go ?_
            refine ⟨n + 1, ⟨rfl, trivial⟩, rfl, ⟨by omega, by rw [hn1]⟩, by omega, Ent.app ?_⟩
            rw [hn1]
            exact ent
          · rw [if_neg (fun z => hgt z.2.2)] at hn1
            refine go ?_
            refine ⟨n + 1, ⟨rfl, trivial⟩, rfl, ⟨by omega, by rw [hn1]⟩, by omega, Ent.app ?_⟩
            rw [hn1]
            exact ent
        · rw [if_neg (fun z => hg z.2.1)] at hn1
          refine go ?_
          refine ⟨n + 1, ⟨rfl, trivial⟩, rfl, ⟨by omega, by rw [hn1]⟩, by omega, Ent.app ?_⟩
          rw [hn1]
          exact ent
  · obtain rfl : n = min 2 d.kept.length := by omega
    rw [if_neg (by rw [he]; simp)] at hS
    rw [hS]
    clear hS hn1 hstay
    generalize loadN d (min 2 d.kept.length) = x at *
    obtain ⟨x1, ⟨lg, lE, lp, lq, ll⟩, xe⟩ := x
    dsimp only at he k1 k2 k3 k4 k5
    dsimp only [Hd.L]
    subst he
    by_cases hz : lg = 0
    · have hk := k5.resolve_right (by omega)
      injection hk with q1 q2 q3 q4 q5
      subst q1; subst q2; subst q3; subst q4; subst q5
      rw [if_pos rfl]
      refine go ?_
      refine WO.sv rfl ?_
      refine SV.eqlSt (xs := hdL 0 0 0 0 0) (ys := hdL 0 0 0 0 0) (b := true) rfl rfl rfl rfl rfl (sEq_self _) ?_
      refine go ?_
      exact ⟨rfl, [_, _], ⟨Res.cell rfl le0 nl, Res.tmp rfl, trivial⟩, DevH b x1 :: R, ent, rfl, rfl⟩
    · rw [if_neg hz]
      refine go ?_
      refine WO.sv rfl ?_
      refine SV.eqlSt (xs := hdL lg lE lp lq ll) (ys := hdL 0 0 0 0 0) (b := false) rfl rfl rfl rfl rfl (by
        have : ¬((lg : Int) = ((0 : Nat) : Int)) := by omega
        simp only [hdL, sEq]
        rw [decide_eq_false this, Bool.false_and]) ?_
      refine go ?_
      exact ⟨rfl, [_, _], ⟨Res.cell rfl le0 nl, Res.tmp rfl, trivial⟩, DevH b x1 :: R, ent, rfl, rfl⟩
end Go.SL

/- Layer 7: the law DevKeeps, walked. -/
namespace Go.SL
open Go.Proofs
set_option linter.unusedVariables false
set_option linter.unusedSimpArgs false
set_option maxRecDepth 10000
set_option maxHeartbeats 4000000
attribute [local irreducible] W WO SV OW SW Tri Ent Tk Has Src SrcK DA DB RdS Own

/-- No call falls. -/
structure Dv.Calm (d : Dv) : Prop where
  ok : d.Ok
  some : d.kept.length ≠ 0
  arm : d.arm = -1
  down : d.down = false
theorem Dv.call_calm {d : Dv} (h : d.Calm) : d.call true = ({ d with ops := IntKind.i64.wrap (d.ops + 1) }, 0) := by
  obtain ⟨_, h1, h2, h3⟩ := h
  obtain ⟨kept, now, waits, arm, down, ops⟩ := d
  simp only at h1 h2 h3
  subst h2; subst h3
  unfold Dv.call
  rw [if_neg h1, if_neg (by decide)]
  rfl
theorem Dv.is_of {d : Dv} {n : Int} (h : 0 ≤ n ∧ n < d.kept.length) : d.is n = true := by
  unfold Dv.is; rw [decide_eq_true h.1, decide_eq_true h.2]; rfl
theorem Dv.read_calm {d : Dv} (h : d.Calm) {n : Int} (hn : 0 ≤ n ∧ n < d.kept.length) : d.read n = ({ d with ops := IntKind.i64.wrap (d.ops + 1) }, 0) := by
  unfold Dv.read; rw [Dv.is_of hn, Dv.call_calm h]
theorem Dv.put_calm {d : Dv} (h : d.Calm) {n : Int} {s : Byt} (hn : 0 ≤ n ∧ n < d.kept.length) (hs : s.length = 256) :
    d.put n s = ({ d with ops := IntKind.i64.wrap (d.ops + 1), now := d.now.set n.toNat s, waits := d.waits ++ [(n.toNat, s)] }, 0) := by
  unfold Dv.put; rw [Dv.is_of hn, decide_eq_true hs, Bool.true_and, Dv.call_calm h, if_pos rfl]
theorem Dv.flush_calm {d : Dv} (h : d.Calm) : d.flush = ({ d with ops := IntKind.i64.wrap (d.ops + 1), kept := d.now, waits := [] }, 0) := by
  unfold Dv.flush; rw [Dv.call_calm h, if_pos rfl, h.ok.sync]
theorem Dv.Calm.ops {d : Dv} (h : d.Calm) (n : Int) : ({ d with ops := n } : Dv).Calm := ⟨⟨h.ok.now, h.ok.size, h.ok.k256, h.ok.n256, h.ok.w256, h.ok.arm, h.ok.sync⟩, h.some, h.arm, h.down⟩
theorem Dv.Calm.read {d : Dv} (h : d.Calm) {n : Int} (hn : 0 ≤ n ∧ n < d.kept.length) : (d.read n).1.Calm := by rw [Dv.read_calm h hn]; exact h.ops _
theorem Dv.Calm.put {d : Dv} (h : d.Calm) {n : Int} {s : Byt} (hn : 0 ≤ n ∧ n < d.kept.length) (hs : s.length = 256) : (d.put n s).1.Calm := by
  refine ⟨Dv.put_ok h.ok n s, ?_, ?_, ?_⟩ <;> rw [Dv.put_calm h hn hs]
  · exact h.some
  · exact h.arm
  · exact h.down
theorem Dv.Calm.flush {d : Dv} (h : d.Calm) : d.flush.1.Calm := by
  refine ⟨Dv.flush_ok h.ok, ?_, ?_, ?_⟩ <;> rw [Dv.flush_calm h]
  · show d.now.length ≠ 0; rw [h.ok.now]; exact h.some
  · exact h.arm
  · exact h.down
theorem Dv.Calm.new {n : Nat} (h : 1 ≤ n) (h' : n ≤ 4096) : (Dv.new n).Calm := ⟨Dv.new_ok h', by simp [Dv.new]; omega, rfl, rfl⟩
theorem Dv.Calm.fall {d : Dv} (ok : d.Ok) (h : d.kept.length ≠ 0) (ks : List Int) : (d.fall ks).Calm := by
  refine ⟨Dv.fall_ok ok ks, ?_, ?_, ?_⟩ <;> rw [Dv.fall, if_neg h]
  rw [fallN_len]; exact h
theorem getD_setL {l : List Byt} {k j : Nat} {u : Byt} (hk : k < l.length) : (l.set k u).getD j [] = if j = k then u else l.getD j [] := by
  simp only [List.getD_eq_getElem?_getD, List.getElem?_set]
  by_cases h : k = j
  · subst h; simp [hk]
  · have h' : ¬ j = k := fun e => h e.symm
    simp [h, h']
theorem getD_setB {l : List Bool} {k j : Nat} {u : Bool} (hk : k < l.length) : (l.set k u).getD j false = if j = k then u else l.getD j false := by
  simp only [List.getD_eq_getElem?_getD, List.getElem?_set]
  by_cases h : k = j
  · subst h; simp [hk]
  · have h' : ¬ j = k := fun e => h e.symm
    simp [h, h']
theorem rep_get (c : UInt8) {i : Nat} (h : i < 256) : ((rep c).map u8V)[i]? = some (u8V c) := by
  rw [rep, List.map_replicate, List.getElem?_replicate, if_pos h]
theorem rep_mem {c x : UInt8} (h : x ∈ rep c) : x = c := (List.mem_replicate.1 h).2
/-- Each byte behind a fall is of what was kept, or of a write. -/
theorem fall_bytes {P : Nat → UInt8 → Prop} {kept : List Byt} {waits : List (Nat × Byt)} {ks : List Int} (hk : ∀ k, ∀ c ∈ kept.getD k [], P k c) (hw : ∀ w ∈ waits, w.1 < kept.length ∧ ∀ c ∈ w.2, P w.1 c) :
    ∀ i, i ≤ waits.length → ∀ k, ∀ c ∈ (fallN kept waits ks i).getD k [], P k c
  | 0, _, k, c, h => hk k c h
  | i + 1, hi, k, c, h => by
    have ih := fall_bytes (ks := ks) hk hw i (by omega)
    have hm := hw _ (getD_mem (l := waits) (i := i) (x := (0, [])) (by omega))
    rw [fallN, getD_setL (by rw [fallN_len]; exact hm.1)] at h
    by_cases e : k = (waits.getD i (0, [])).1
    · rw [if_pos e] at h
      rw [e]
      rcases List.mem_append.1 h with q | q
      · exact hm.2 c (List.mem_of_mem_take q)
      · exact ih _ c (List.mem_of_mem_drop q)
    · rw [if_neg e] at h; exact ih k c h

structure ActD where
  kind : Int
  n : Int
  c : UInt8
  ka : Option Addr
  ks : List Int
  kc : Nat
/-- What is known of a step that came in. -/
def ActD.Okk (L : List HP) (x : ActD) : Prop := (-9223372036854775808 ≤ x.kind ∧ x.kind ≤ 9223372036854775807) ∧ (-9223372036854775808 ≤ x.n ∧ x.n ≤ 9223372036854775807) ∧ x.ks.length ≤ 9223372036854775807 ∧ RdS 1 x.ka x.ks.length (x.ks.map (Value.int .i64)) L
def actD (x : ActD) : List Value := [.int .i64 x.kind, .int .i64 x.n, u8V x.c, .slice x.ka x.ks.length x.kc]

end Go.SL

/- Layer 9: the plain law of heads; the law's known head. -/
namespace Go.SL
open Go.Proofs
set_option linter.unusedVariables false
set_option linter.unusedSimpArgs false
set_option maxRecDepth 10000
set_option maxHeartbeats 4000000
attribute [local irreducible] W WO SV OW SW Tri Ent Tk Has Src SrcK DA DB RdS Own DevH

/-- A head's block is read as it was. -/
theorem hd_back {h : Hd} (fit : h.Fit) {b : Int} (r : HdR h (min b 4096)) : hdOk h.put b = true ∧ hdOf h.put b = h := by
  have hel := h.enc_len fit
  have r' := r
  unfold HdR at r'
  have hlen : h.put.length = 256 := sealB_len hel
  have hok : rOK h.put = true := rOK_iff.2 ⟨hlen, sealB_ok hel fit.g fit.g mkR9⟩
  obtain ⟨q1, q2, q3⟩ := mkB_read 9 h.gen h.gen ([0, UInt8.ofNat h.enc.length] ++ (h.enc ++ (List.replicate (220 - h.enc.length) 0 ++ mkB 9 h.gen h.gen))) fit.g fit.g
  have c1 : rK h.put = 9 := by unfold rK; rw [hok]; exact q1
  have c2 : rE h.put = h.gen := by unfold rE; rw [hok]; exact q2
  have c3 : rQ h.put = h.gen := by unfold rQ; rw [hok]; exact q3
  have c4 : rB h.put = h.enc := by unfold rB; rw [hok]; exact sealB_opB hel
  have hp : h.pos.toNat < 18446744073709551616 := by have := fit.p; omega
  have hl : h.log.toNat < 18446744073709551616 := by have := fit.l; omega
  have hR : hdRead h.put = (h, 0) := by
    unfold hdRead
    rw [c2, c4]
    unfold Hd.enc
    dsimp only
    rw [LI.num_enc fit.e]
    dsimp only
    rw [LI.small_enc hp (by omega)]
    dsimp only
    rw [LI.num_enc fit.s]
    dsimp only
    have e4 := LI.small_enc hl (show h.log.toNat ≤ 4096 by omega) []
    rw [List.append_nil] at e4
    rw [e4]
    dsimp only [LI.fin]
    rw [Int.toNat_of_nonneg (by omega), Int.toNat_of_nonneg (by omega)]
    rfl
  have hO : hdOk h.put b = true := by
    unfold hdOk
    rw [hR, hok, c1, c2, c3, decide_eq_true (show (9 : UInt8) = 9 ∧ h.gen = h.gen from ⟨rfl, rfl⟩), decide_eq_true r]
    rfl
  refine ⟨hO, ?_⟩
  unfold hdOf
  rw [hO, hR]
  rfl
/-- A block of bytes 0 is none. -/
theorem hd_zero (b : Int) : hdOk zero256 b = false := by
  have : rOK zero256 = false := by
    unfold rOK opOk
    have h0 : mkR (zero256.getD 0 0) = false := by
      unfold zero256
      rw [List.getD_eq_getElem?_getD, List.getElem?_replicate]
      rfl
    rw [h0]
    simp
  unfold hdOk
  rw [this]
  rfl
/-- The greatest head of the first blocks. -/
def wantN (xs : Nat → Byt) (len : Int) : Nat → Hd
  | 0 => Hd.zero
  | n + 1 => pickH (wantN xs len n) (xs n) n len
theorem wantN_ok (xs : Nat → Byt) (len : Int) : ∀ n, wantN xs len n = Hd.zero ∨ 1 ≤ (wantN xs len n).gen
  | 0 => .inl rfl
  | n + 1 => pickH_ok (wantN_ok xs len n)
theorem loadN_calm {d : Dv} (c : d.Calm) : ∀ n, n ≤ d.kept.length → (loadN d n).1.Calm ∧ (loadN d n).1.kept = d.kept ∧ (loadN d n).1.now = d.now ∧ (loadN d n).1.waits = d.waits ∧ (loadN d n).2.1 = wantN (fun k => d.now.getD k []) d.kept.length n ∧ (loadN d n).2.2 = 0
  | 0, _ => ⟨c, rfl, rfl, rfl, rfl, rfl⟩
  | n + 1, h => by
    obtain ⟨a, b, e, w, f, g⟩ := loadN_calm c n (by omega)
    have hr := Dv.read_calm a (n := n) (by rw [b]; omega)
    have hc := Dv.Calm.read a (n := n) (by rw [b]; omega)
    unfold loadN
    rw [if_neg (by rw [g]; simp), if_neg (by rw [hr]; simp)]
    refine ⟨hc, ?_, ?_, ?_, ?_, rfl⟩
    · rw [hr]; exact b
    · rw [hr]; exact e
    · rw [hr]; exact w
    · show pickH _ _ _ _ = pickH _ _ _ _
      rw [f, e]
theorem loadS_calm {d : Dv} (c : d.Calm) (h : 2 ≤ d.kept.length) : (loadS d).1.Calm ∧ (loadS d).1.kept = d.kept ∧ (loadS d).1.now = d.now ∧ (loadS d).1.waits = d.waits ∧ (loadS d).2.1 = wantN (fun k => d.now.getD k []) d.kept.length 2 ∧
    (loadS d).2.2 = if (wantN (fun k => d.now.getD k []) d.kept.length 2).gen = 0 then 13 else 0 := by
  obtain ⟨a, b, e, w, f, g⟩ := loadN_calm c 2 h
  have hm : min 2 d.kept.length = 2 := by omega
  unfold loadS
  rw [if_neg c.some, hm, if_neg (by rw [g]; simp), f]
  have hw := wantN_ok (fun k => d.now.getD k []) d.kept.length 2
  split
  · rename_i hz
    rcases hw with hw | hw
    · exact ⟨a, b, e, w, hw.symm, rfl⟩
    · omega
  · exact ⟨a, b, e, w, f, g⟩
theorem saveS_calm {d : Dv} (c : d.Calm) {h : Hd} (fit : h.Fit) (r : HdR h d.kept.length) :
    (saveS d h).2 = 0 ∧ (saveS d h).1.Calm ∧ (saveS d h).1.kept = d.now.set (h.gen % 2) h.put ∧ (saveS d h).1.now = d.now.set (h.gen % 2) h.put ∧ (saveS d h).1.waits = [] := by
  have r' := r
  unfold HdR at r'
  have hpl : h.put.length = 256 := sealB_len (h.enc_len fit)
  have hin : (0 : Int) ≤ ((h.gen % 2 : Nat) : Int) ∧ ((h.gen % 2 : Nat) : Int) < d.kept.length := by omega
  have hp := Dv.put_calm c hin hpl
  have hc := Dv.Calm.put c hin hpl
  unfold saveS
  rw [if_neg c.some, if_pos r, if_pos (by rw [hp])]
  refine ⟨by rw [Dv.flush_calm hc], Dv.Calm.flush hc, ?_, ?_, ?_⟩
  · rw [Dv.flush_calm hc, hp]; simp only [Int.toNat_natCast]
  · rw [Dv.flush_calm hc, hp]; simp only [Int.toNat_natCast]
  · rw [Dv.flush_calm hc]
theorem saveS_not {d : Dv} (c : d.Calm) {h : Hd} (r : ¬HdR h d.kept.length) : saveS d h = (d, 2) := by
  unfold saveS
  rw [if_neg c.some, if_neg r]
def Hd.one : Hd := ⟨1, 1, 0, 1, 5⟩
theorem l9_one (L : List HP) : TriE Tryd.prog 24 #[] (fun v M => v = .bool true ∧ M = L) L := by
  have fit : Hd.one.Fit := ⟨by decide, by decide, by decide, by decide, by decide⟩
  have c0 : (Dv.new 10).Calm := Dv.Calm.new (by decide) (by decide)
  have hk0 : (Dv.new 10).kept.length = 10 := by simp [Dv.new]
  have r : HdR Hd.one ((Dv.new 10).kept.length : Nat) := by rw [hk0]; decide
  obtain ⟨s1, s2, s3, s4, s5⟩ := saveS_calm c0 fit r
  have hS := fun b L => h9_Save b (Dv.new 10) Hd.one L c0.ok (by simp [Dv.new]) fit
  generalize saveS (Dv.new 10) Hd.one = ds at *
  have hn0 : (Dv.new 10).now = List.replicate 10 zero256 := rfl
  rw [hn0] at s3 s4
  have hk1 : ds.1.kept.length = 10 := by rw [s3]; simp
  obtain ⟨t1, t2, t3, t4, t5, t6⟩ := loadS_calm s2 (by omega)
  have hL := fun b L => h9_Load b ds.1 L s2.ok
  have hw : wantN (fun k => ds.1.now.getD k []) ds.1.kept.length 2 = Hd.one := by
    rw [hk1, s4]
    have e0 : ((List.replicate 10 zero256).set (Hd.one.gen % 2) Hd.one.put).getD 0 [] = zero256 := by
      rw [show Hd.one.gen % 2 = 1 from rfl]; simp
    have e1 : ((List.replicate 10 zero256).set (Hd.one.gen % 2) Hd.one.put).getD 1 [] = Hd.one.put := by
      rw [show Hd.one.gen % 2 = 1 from rfl]; simp
    obtain ⟨g1, g2⟩ := hd_back (h := Hd.one) fit (b := 10) (by decide)
    have p0 : pickH Hd.zero zero256 0 ((10 : Nat) : Int) = Hd.zero := by
      unfold pickH; rw [if_neg (by rw [hd_zero]; simp)]
    show pickH (pickH Hd.zero _ 0 _) _ 1 _ = _
    dsimp only
    rw [e0, e1, p0]
    unfold pickH
    have g1' : hdOk Hd.one.put ((10 : Nat) : Int) = true := g1
    have g2' : hdOf Hd.one.put ((10 : Nat) : Int) = Hd.one := g2
    rw [g1', g2', if_pos ⟨rfl, rfl, by decide⟩]
  rw [hw] at t5 t6
  have t6' : (loadS ds.1).2.2 = 0 := t6
  generalize loadS ds.1 = ls at *
  refine Tri.of (N := 33) (args := []) Tryd.func24 rfl rfl rfl ?_
  refine go ?_
  refine WO.callE (vs := [.int .i64 10]) Tryd.func19 rfl rfl rfl rfl (dv_New 10 _ (by decide) (by decide)) ?_
  rintro v M ⟨b, rfl, rfl⟩
  refine go ?_
  intro b3
  refine go ?_
  refine WO.callE (vs := [.pointer (some ⟨b, 0, none⟩), .agg Hd.one.L.toArray]) Tryd.func20 rfl rfl rfl rfl (TriE.ent ent (hS b (pts b3 (.cells (hdL 1 1 0 1 5).toArray 53) :: L))) ?_
  rintro v M ⟨rfl, rfl⟩
  rw [s1]
  refine go ?_
  refine WO.callE (vs := [.pointer (some ⟨b, 0, none⟩)]) Tryd.func23 rfl rfl rfl rfl (hL b _) ?_
  rintro v M ⟨rfl, rfl⟩
  rw [t5, t6']
  dsimp only [Hd.L, Hd.one]
  refine go ?_
  intro b4
  refine go ?_
  refine WO.sv rfl ?_
  refine SV.eqlSt (xs := hdL 1 1 0 1 5) (ys := hdL 1 1 0 1 5) (b := true) rfl rfl rfl rfl rfl (sEq_self _) ?_
  refine go ?_
  exact ⟨rfl, [_], ⟨Res.tmp rfl, trivial⟩, L, ent, rfl, rfl⟩
end Go.SL

/- Layer 9: the plain law of a fall within a save. -/
namespace Go.SL
set_option linter.unusedVariables false
set_option linter.unusedSimpArgs false
set_option maxRecDepth 100000

/-- A block beside the head's whose generation is g: its last 17 bytes are some first ones of the next one's mark, ahead of an elder one's; and are not the next one's mark. -/
def Old9 (g : Nat) (w : Byt) : Prop := w.length = 256 ∧ w.drop 239 ≠ mkB 9 (g + 1) (g + 1) ∧
  ∃ (k : Nat) (o : Byt) (e : Nat), w.drop 239 = (mkB 9 (g + 1) (g + 1)).take k ++ o.drop k ∧ k ≤ 17 ∧ o.length = 17 ∧ o.drop 9 = beN e 8 ∧ e < g
theorem beN_inj {e e' : Nat} (h : e < 18446744073709551616) (h' : e' < 18446744073709551616) (q : beN e 8 = beN e' 8) : e = e' := by
  have := mkB_inj (k := 0) (k' := 0) (e := e) (s := 0) (e' := e') (s' := 0) h (by decide) h' (by decide) (by unfold mkB; rw [q])
  exact this.2.1
theorem mkB_take9 (e s : Nat) : (mkB 9 e s).take 9 = [9] ++ beN e 8 := by
  unfold mkB
  rw [List.take_append_of_le_length (by simp), List.take_of_length_le (by simp)]
theorem mkB_drop9 (k : UInt8) (e s : Nat) : (mkB k e s).drop 9 = beN s 8 := by
  unfold mkB
  rw [List.drop_append, List.drop_eq_nil_of_le (by simp)]
  simp
/-- No mark lies between two. -/
theorem mix_mark {g e e0 k : Nat} {o : Byt} (hg : g + 1 < 18446744073709551616) (he : e < 18446744073709551616) (he0 : e0 < g) (hk : k ≤ 17) (ho : o.length = 17) (h0 : o.drop 9 = beN e0 8)
    (hm : (mkB 9 (g + 1) (g + 1)).take k ++ o.drop k = mkB 9 e e) : e = g + 1 ∨ e = e0 := by
  have hl : ((mkB 9 (g + 1) (g + 1)).take k).length = k := by rw [List.length_take, mkB_len]; omega
  by_cases h9 : k ≤ 9
  · right
    have h1 : ((mkB 9 (g + 1) (g + 1)).take k ++ o.drop k).drop 9 = o.drop 9 := by
      rw [List.drop_append, List.drop_eq_nil_of_le (by omega), List.nil_append, hl, List.drop_drop]
      congr 1; omega
    rw [hm, h0, mkB_drop9] at h1
    exact beN_inj he (by omega) h1
  · left
    have h1 : ((mkB 9 (g + 1) (g + 1)).take k ++ o.drop k).take 9 = (mkB 9 (g + 1) (g + 1)).take 9 := by
      rw [List.take_append_of_le_length (by omega), List.take_take, Nat.min_eq_left (by omega)]
    rw [hm, mkB_take9, mkB_take9] at h1
    exact beN_inj he hg (List.append_cancel_left h1)
/-- What is read of a block with a head: its marks are that head's. -/
theorem hd_marks {w : Byt} {b : Int} (h : hdOk w b = true) : w.length = 256 ∧ w.drop 239 = mkB 9 (hdOf w b).gen (hdOf w b).gen ∧ (hdOf w b).gen < 18446744073709551616 := by
  have hg : (hdOf w b).gen = rE w := by unfold hdOf; rw [h]; rfl
  unfold hdOk at h
  simp only [Bool.and_eq_true, decide_eq_true_eq] at h
  obtain ⟨⟨⟨h1, h2, h3⟩, _⟩, _⟩ := h
  obtain ⟨hl, ho⟩ := rOK_iff.1 h1
  have hm := opOk_marks hl ho
  have ht := mkB_take (s := w) (by omega)
  have e1 : rK w = w.getD 0 0 := by unfold rK; rw [h1]; rfl
  have e2 : rE w = nbe w 1 8 := by unfold rE; rw [h1]; rfl
  have e3 : rQ w = nbe w 9 8 := by unfold rQ; rw [h1]; rfl
  rw [← e1, ← e2, ← e3, h2, ← h3] at ht
  exact ⟨hl, by rw [hg, ← hm, ← ht], by rw [hg]; exact rE_lt w⟩
/-- An elder block's head, if it has one, is elder. -/
theorem Old9.elder {g : Nat} {w : Byt} {b : Int} (hg : g + 1 < 18446744073709551616) (o : Old9 g w) (h : hdOk w b = true) : (hdOf w b).gen < g := by
  obtain ⟨_, hne, k, o', e, h1, h2, h3, h4, h5⟩ := o
  obtain ⟨_, m1, m2⟩ := hd_marks h
  rw [m1] at h1 hne
  rcases mix_mark hg m2 h5 h2 h3 h4 h1.symm with q | q
  · rw [q] at hne; exact absurd rfl hne
  · omega
/-- A block that a fall leaves torn is whole, or as elder as it was. -/
theorem Old9.torn {g n : Nat} {w x : Byt} (o : Old9 g w) (hx : x.length = 256) (x2 : x.drop 239 = mkB 9 (g + 1) (g + 1)) (hn : n ≤ 256) : x.take n ++ w.drop n = x ∨ Old9 g (x.take n ++ w.drop n) := by
  obtain ⟨hw, hne, k, o', e, h1, h2, h3, h4, h5⟩ := o
  have hl : (x.take n).length = n := by rw [List.length_take]; omega
  have hT : (x.take n ++ w.drop n).length = 256 := by rw [List.length_append, List.length_drop]; omega
  by_cases hn9 : n ≤ 239
  · right
    have e2 : (x.take n ++ w.drop n).drop 239 = w.drop 239 := by
      rw [List.drop_append, hl, List.drop_eq_nil_of_le (by omega), List.nil_append, List.drop_drop]
      congr 1; omega
    exact ⟨hT, by rw [e2]; exact hne, k, o', e, by rw [e2]; exact h1, h2, h3, h4, h5⟩
  · have hM : (mkB 9 (g + 1) (g + 1)).length = 17 := mkB_len _ _ _
    have e2 : (x.take n ++ w.drop n).drop 239 = (mkB 9 (g + 1) (g + 1)).take (n - 239) ++ (w.drop 239).drop (n - 239) := by
      rw [List.drop_append_of_le_length (by omega), List.drop_take, x2, List.drop_drop, show 239 + (n - 239) = n by omega]
    by_cases hM2 : (x.take n ++ w.drop n).drop 239 = mkB 9 (g + 1) (g + 1)
    · left
      have hc : (w.drop 239).drop (n - 239) = (x.drop 239).drop (n - 239) := by
        rw [e2] at hM2
        have := congrArg (List.drop (n - 239)) hM2
        have e0 : ((mkB 9 (g + 1) (g + 1)).take (n - 239)).drop (n - 239) = [] := List.drop_eq_nil_of_le (by rw [List.length_take]; omega)
        rw [List.drop_append, e0, List.nil_append, List.length_take, hM, show n - 239 - min (n - 239) 17 = 0 by omega, List.drop_zero] at this
        rw [this, x2]
      rw [List.drop_drop, List.drop_drop, show 239 + (n - 239) = n by omega] at hc
      rw [hc, List.take_append_drop]
    · right
      refine ⟨hT, hM2, max (n - 239) k, o', e, ?_, by omega, h3, h4, h5⟩
      rw [e2, h1]
      by_cases hk : k ≤ n - 239
      · rw [Nat.max_eq_left hk, List.drop_append, List.drop_eq_nil_of_le (by rw [List.length_take]; omega), List.nil_append, List.length_take, hM, List.drop_drop]
        congr 2; omega
      · rw [Nat.max_eq_right (by omega), List.drop_append_of_le_length (by rw [List.length_take]; omega), ← List.append_assoc]
        congr 1
        rw [List.drop_take]
        have : k = (n - 239) + (k - (n - 239)) := by omega
        conv => rhs; rw [this, List.take_add]
/-- The head ahead of the next one. -/
theorem old_put {h : Hd} (fit : h.Fit) {g : Nat} (hg : h.gen = g) (hz : g + 1 + 1 < 18446744073709551616) : Old9 (g + 1) h.put := by
  have hel := h.enc_len fit
  have e2 : h.put.drop 239 = mkB 9 g g := by
    have := sealB_end (k := 9) (e := h.gen) (s := h.gen) hel
    rw [hg] at this
    unfold Hd.put
    rw [hg]; exact this
  have hlen : h.put.length = 256 := sealB_len hel
  refine ⟨hlen, ?_, 0, mkB 9 g g, g, by rw [e2]; simp, by omega, mkB_len _ _ _, mkB_drop9 _ _ _, by omega⟩
  rw [e2]
  intro q
  have := (mkB_inj (by omega) (by omega) hz hz q).2.1
  omega
theorem old_zero {g : Nat} (h1 : 0 < g) (h2 : g + 1 < 18446744073709551616) : Old9 g zero256 := by
  have e2 : zero256.drop 239 = List.replicate 17 0 := by unfold zero256; rw [List.drop_replicate]
  have e3 : List.replicate 17 (0 : UInt8) = mkB 0 0 0 := by decide
  refine ⟨by simp [zero256], ?_, 0, mkB 0 0 0, 0, by rw [e2, e3]; simp, by omega, mkB_len _ _ _, mkB_drop9 _ _ _, h1⟩
  rw [e2, e3]
  intro q
  have := (mkB_inj (by decide) (by decide) h2 h2 q).1
  exact absurd this (by decide)

theorem pick_put {h : Hd} (fit : h.Fit) {b : Int} (r : HdR h (min b 4096)) (last : Hd) (n : Nat) (hn : h.gen % 2 = n) : pickH last h.put n b = if last.gen < h.gen then h else last := by
  obtain ⟨h1, h2⟩ := hd_back fit r
  unfold pickH
  rw [h1, h2]
  by_cases q : last.gen < h.gen
  · rw [if_pos ⟨rfl, hn, q⟩, if_pos q]
  · rw [if_neg (fun z => q z.2.2), if_neg q]
theorem pick_old {g : Nat} {w : Byt} (hg : g + 1 < 18446744073709551616) (o : Old9 g w) (last : Hd) (n : Nat) (b : Int) : pickH last w n b = last ∨ last.gen < (pickH last w n b).gen ∧ (pickH last w n b).gen < g := by
  unfold pickH
  split
  · rename_i q; exact .inr ⟨q.2.2, o.elder hg q.1⟩
  · exact .inl rfl
theorem Dv.call_arm {kept now : List Byt} {waits : List (Nat × Byt)} {a ops : Int} (hk : kept.length ≠ 0) :
    (Dv.mk kept now waits a false ops).call true = (⟨kept, now, waits, max (-1) (a - 1), decide (a = 0), IntKind.i64.wrap (ops + 1)⟩, if a = 0 then 17 else 0) := by
  unfold Dv.call
  rw [if_neg hk, if_neg (by decide)]
  by_cases h : a = 0 <;> simp [h]
theorem saveS_ok {d : Dv} (ok : d.Ok) (h : Hd) : (saveS d h).1.Ok := by
  unfold saveS
  split
  · exact ok
  · split
    · split
      · exact Dv.flush_ok (Dv.put_ok ok _ _)
      · exact Dv.put_ok ok _ _
    · exact ok
theorem Dv.armed {d : Dv} (ok : d.Ok) {a : Int} (h : -1 ≤ a ∧ a ≤ 9223372036854775807) : ({ d with arm := a } : Dv).Ok :=
  ⟨ok.now, ok.size, ok.k256, ok.n256, ok.w256, h, ok.sync⟩
/-- What is on the device ahead of a turn. -/
structure Turn (d : Dv) (l : Hd) : Prop where
  c : d.Calm
  k : d.kept.length = 40
  w : d.waits = []
  n : d.now = d.kept
  fit : l.Fit
  r : HdR l 40
  here : d.kept.getD (l.gen % 2) [] = l.put
  old : Old9 l.gen (d.kept.getD ((l.gen + 1) % 2) [])
/-- A save, and a fall. -/
theorem turn_fall {d : Dv} {l h : Hd} (t : Turn d l) (hg : h.gen = l.gen + 1) (fit : h.Fit) (r : HdR h 40) {m : Int} (hm : m = -1 ∨ m = 0 ∨ m = 1 ∨ m = 2) (k : Int) :
    ∃ w, ((saveS { d with arm := m } h).1.fall [k]).Calm ∧ ((saveS { d with arm := m } h).1.fall [k]).kept = d.kept.set (h.gen % 2) w ∧ ((saveS { d with arm := m } h).1.fall [k]).now = d.kept.set (h.gen % 2) w ∧
      ((saveS { d with arm := m } h).1.fall [k]).waits = [] ∧ (saveS { d with arm := m } h).1.Ok ∧ (saveS { d with arm := m } h).1.waits.length ≤ 1 ∧
      ((saveS { d with arm := m } h).2 = 0 ∧ w = h.put ∨ (saveS { d with arm := m } h).2 = 17 ∧ (w = h.put ∨ Old9 l.gen w)) := by
  have hpl : h.put.length = 256 := sealB_len (h.enc_len fit)
  have hO := saveS_ok (Dv.armed t.c.ok (a := m) (by omega)) h
  obtain ⟨tc, tk0, tw, tn, _, _, _, told⟩ := t
  obtain ⟨tok, t1, t2, t3⟩ := tc
  obtain ⟨kept, now, waits, arm, down, ops⟩ := d
  dsimp only at tk0 tw tn t1 t2 t3 told hO ⊢
  subst tw; subst tn; subst t2; subst t3
  have hj : h.gen % 2 < now.length := by omega
  have e2 : (l.gen + 1) % 2 = h.gen % 2 := by rw [hg]
  rw [e2] at told
  have hx2 : h.put.drop 239 = mkB 9 (l.gen + 1) (l.gen + 1) := by
    have := sealB_end (k := 9) (e := h.gen) (s := h.gen) (h.enc_len fit)
    rw [← hg]; exact this
  have hR : HdR h ((now.length : Nat) : Int) := by rw [tk0]; exact r
  have hself : now = now.set (h.gen % 2) (now.getD (h.gen % 2) []) := by
    apply List.ext_getElem
    · simp
    · intro i h1 h2
      rw [List.getElem_set]
      split
      · rename_i q; subst q; simp [h1]
      · rfl
  have hF : ∀ d' : Dv, d'.Ok → d'.kept.length = 40 → ∀ ks, (d'.fall ks).Calm ∧ d'.fall ks = ⟨fallN d'.kept d'.waits ks d'.waits.length, fallN d'.kept d'.waits ks d'.waits.length, [], -1, false, d'.ops⟩ := by
    intro d' ok hk ks
    exact ⟨Dv.Calm.fall ok (by omega) ks, by rw [Dv.fall, if_neg (by omega)]⟩
  have hP : ∀ a, (Dv.mk now now [] a false ops).put ((h.gen % 2 : Nat) : Int) h.put = if a = 0 then (⟨now, now, [], -1, true, IntKind.i64.wrap (ops + 1)⟩, 17) else (⟨now, now.set (h.gen % 2) h.put, [(h.gen % 2, h.put)], max (-1) (a - 1), false, IntKind.i64.wrap (ops + 1)⟩, 0) := by
    intro a
    unfold Dv.put
    rw [Dv.is_of ⟨by omega, by dsimp only; omega⟩, decide_eq_true hpl, Bool.true_and, Dv.call_arm t1]
    by_cases q : a = 0
    · subst q; rw [if_pos rfl, if_pos rfl]; rfl
    · rw [if_neg q, if_neg q]
      have z : ((h.gen : Int) % 2).toNat = h.gen % 2 := by omega
      simp [q, z]
  have hS : ∀ a, saveS (Dv.mk now now [] a false ops) h = if a = 0 then (⟨now, now, [], -1, true, IntKind.i64.wrap (ops + 1)⟩, 17) else (Dv.mk now (now.set (h.gen % 2) h.put) [(h.gen % 2, h.put)] (max (-1) (a - 1)) false (IntKind.i64.wrap (ops + 1))).flush := by
    intro a
    unfold saveS
    rw [if_neg t1, if_pos hR, hP]
    by_cases q : a = 0
    · subst q; rw [if_pos rfl, if_pos rfl]; rfl
    · rw [if_neg q, if_neg q]; rfl
  have hFl : ∀ a, (Dv.mk now (now.set (h.gen % 2) h.put) [(h.gen % 2, h.put)] a false (IntKind.i64.wrap (ops + 1))).flush = if a = 0 then (⟨now, now.set (h.gen % 2) h.put, [(h.gen % 2, h.put)], -1, true, IntKind.i64.wrap (IntKind.i64.wrap (ops + 1) + 1)⟩, 17) else (⟨now.set (h.gen % 2) h.put, now.set (h.gen % 2) h.put, [], max (-1) (a - 1), false, IntKind.i64.wrap (IntKind.i64.wrap (ops + 1) + 1)⟩, 0) := by
    intro a
    unfold Dv.flush
    rw [Dv.call_arm t1]
    by_cases q : a = 0
    · subst q; rfl
    · rw [if_neg q, if_neg q]; simp [q, flushN]
  rcases hm with rfl | rfl | rfl | rfl
  · rw [hS, if_neg (by decide), hFl, if_neg (by decide)] at hO ⊢
    obtain ⟨f1, f2⟩ := hF _ hO (by simp [tk0]) [k]
    refine ⟨h.put, f1, ?_, ?_, ?_, hO, by simp, .inl ⟨rfl, rfl⟩⟩ <;> rw [f2] <;> rfl
  · rw [hS, if_pos rfl] at hO ⊢
    obtain ⟨f1, f2⟩ := hF _ hO tk0 [k]
    refine ⟨now.getD (h.gen % 2) [], f1, ?_, ?_, ?_, hO, by simp, .inr ⟨rfl, .inr told⟩⟩ <;> rw [f2]
    · exact hself
    · exact hself
  · rw [hS, if_neg (by decide), hFl, if_pos (by decide)] at hO ⊢
    obtain ⟨f1, f2⟩ := hF _ hO tk0 [k]
    refine ⟨h.put.take (keepN [k] 0) ++ (now.getD (h.gen % 2) []).drop (keepN [k] 0), f1, ?_, ?_, ?_, hO, by simp, .inr ⟨rfl, told.torn hpl hx2 (keepN_le _ _)⟩⟩ <;> rw [f2] <;> rfl
  · rw [hS, if_neg (by decide), hFl, if_neg (by decide)] at hO ⊢
    obtain ⟨f1, f2⟩ := hF _ hO (by simp [tk0]) [k]
    refine ⟨h.put, f1, ?_, ?_, ?_, hO, by simp, .inl ⟨rfl, rfl⟩⟩ <;> rw [f2] <;> rfl
/-- What is loaded behind it. -/
theorem turn_load {d D : Dv} {l h : Hd} {w : Byt} (t : Turn d l) (hg : h.gen = l.gen + 1) (fit : h.Fit) (r : HdR h 40) (hc : D.Calm) (hk : D.kept = d.kept.set (h.gen % 2) w) (hn : D.now = d.kept.set (h.gen % 2) w) (hw : D.waits = [])
    (ho : w = h.put ∨ Old9 l.gen w) : (loadS D).2.2 = 0 ∧ Turn (loadS D).1 (loadS D).2.1 ∧ ((loadS D).2.1 = h ∨ (loadS D).2.1 = l) ∧ (w = h.put → (loadS D).2.1 = h) := by
  have hz : l.gen + 1 + 1 < 18446744073709551616 := by have := r; unfold HdR at this; omega
  have hl1 : 1 ≤ l.gen := by have := t.r; unfold HdR at this; omega
  have hkl : D.kept.length = 40 := by rw [hk, List.length_set]; exact t.k
  obtain ⟨a1, a2, a3, a4, a5, a6⟩ := loadS_calm hc (by omega)
  have hj : h.gen % 2 < d.kept.length := by have := t.k; omega
  have x0 : D.now.getD (h.gen % 2) [] = w := by rw [hn, getD_setL hj, if_pos rfl]
  have x1 : D.now.getD (l.gen % 2) [] = l.put := by rw [hn, getD_setL hj, if_neg (by omega)]; exact t.here
  have m40 : min ((40 : Nat) : Int) 4096 = 40 := by decide
  have pl := fun last n q => pick_put t.fit (b := ((40 : Nat) : Int)) (by rw [m40]; exact t.r) last n q
  have ph := fun last n q => pick_put fit (b := ((40 : Nat) : Int)) (by rw [m40]; exact r) last n q
  have hwant : wantN (fun k => D.now.getD k []) D.kept.length 2 = if w = h.put then h else l := by
    rw [hkl]
    show pickH (pickH Hd.zero (D.now.getD 0 []) 0 _) (D.now.getD 1 []) 1 _ = _
    rcases Nat.mod_two_eq_zero_or_one l.gen with q | q
    · have q2 : h.gen % 2 = 1 := by omega
      rw [q] at x1; rw [q2] at x0
      rw [x0, x1, pl _ _ q, if_pos (show Hd.zero.gen < l.gen from hl1)]
      by_cases e : w = h.put
      · rw [if_pos e, e, ph _ _ q2, if_pos (by omega)]
      · rw [if_neg e]
        rcases pick_old (by omega) (ho.resolve_left e) l 1 ((40 : Nat) : Int) with z | z
        · exact z
        · omega
    · have q2 : h.gen % 2 = 0 := by omega
      rw [q] at x1; rw [q2] at x0
      rw [x0, x1, pl _ _ q]
      by_cases e : w = h.put
      · rw [if_pos e, e, ph _ _ q2, if_pos (show Hd.zero.gen < h.gen by show 0 < h.gen; omega), if_neg (by omega)]
      · rw [if_neg e]
        rcases pick_old (by omega) (ho.resolve_left e) Hd.zero 0 ((40 : Nat) : Int) with z | z
        · rw [z, if_pos (show Hd.zero.gen < l.gen from hl1)]
        · rw [if_pos (by omega)]
  rw [hwant] at a5 a6
  have hc40 : (loadS D).1.kept.length = 40 := by rw [a2]; exact hkl
  by_cases e : w = h.put
  · rw [if_pos e] at a5 a6
    rw [if_neg (by omega)] at a6
    refine ⟨a6, ?_, .inl a5, fun _ => a5⟩
    rw [a5]
    refine ⟨a1, hc40, by rw [a4, hw], by rw [a2, a3, hk, hn], fit, r, ?_, ?_⟩
    · rw [a2, hk, getD_setL hj, if_pos rfl]; exact e
    · rw [a2, hk, getD_setL hj, if_neg (by omega), show (h.gen + 1) % 2 = l.gen % 2 by omega, t.here, hg]
      exact old_put t.fit rfl hz
  · rw [if_neg e] at a5 a6
    rw [if_neg (by omega)] at a6
    refine ⟨a6, ?_, .inr a5, fun q => absurd q e⟩
    rw [a5]
    refine ⟨a1, hc40, by rw [a4, hw], by rw [a2, a3, hk, hn], t.fit, t.r, ?_, ?_⟩
    · rw [a2, hk, getD_setL hj, if_neg (by omega)]; exact t.here
    · rw [a2, hk, getD_setL hj, if_pos (by omega)]; exact ho.resolve_left e
/-- The first head. -/
theorem turn_start {l : Hd} (fit : l.Fit) (r : HdR l 40) : (saveS (Dv.new 40) l).2 = 0 ∧ Turn (saveS (Dv.new 40) l).1 l := by
  have c0 : (Dv.new 40).Calm := Dv.Calm.new (by decide) (by decide)
  have hk0 : (Dv.new 40).kept.length = 40 := by simp [Dv.new]
  have hn0 : (Dv.new 40).now = List.replicate 40 zero256 := rfl
  obtain ⟨s1, s2, s3, s4, s5⟩ := saveS_calm c0 fit (by rw [hk0]; exact r)
  have r' := r
  unfold HdR at r'
  rw [hn0] at s3 s4
  refine ⟨s1, s2, by rw [s3]; simp, s5, by rw [s3, s4], fit, r, ?_, ?_⟩
  · rw [s3, getD_setL (by simp; omega), if_pos rfl]
  · rw [s3, getD_setL (by simp; omega), if_neg (by omega)]
    have : (List.replicate 40 zero256).getD ((l.gen + 1) % 2) [] = zero256 := by
      rw [List.getD_eq_getElem?_getD, List.getElem?_replicate, if_pos (by omega)]; rfl
    rw [this]
    exact old_zero (by omega) (by omega)
end Go.SL

/- Layer 9: the law SuperTurns, walked. -/
namespace Go.SL
open Go.Proofs
set_option linter.unusedVariables false
set_option linter.unusedSimpArgs false
set_option maxRecDepth 10000
set_option maxHeartbeats 4000000
attribute [local irreducible] W WO SV OW SW Tri Ent Tk Has Src SrcK DA DB RdS Own DevH

abbrev Z3 := Int × Int × Int
def z3D (x : Z3) : List Value := [.int .i64 x.1, .int .i64 x.2.1, .int .i64 x.2.2]
theorem u64_mask (a : Nat) (k : Nat) (hk : k < 9223372036854775808) : ∃ x : Nat, x ≤ k ∧ IntKind.wrap .u64 ((((a : Int) % 2 ^ IntKind.bits .u64).toNat &&& (((k : Nat) : Int) % 2 ^ IntKind.bits .u64).toNat : Nat) : Int) = (x : Int) := by
  have e : (((k : Nat) : Int) % 2 ^ IntKind.bits .u64).toNat = k := by
    rw [show IntKind.bits .u64 = 64 from rfl]; omega
  rw [e]
  refine ⟨((a : Int) % 2 ^ IntKind.bits .u64).toNat &&& k, Nat.and_le_right, ?_⟩
  have := Nat.and_le_right (n := ((a : Int) % 2 ^ IntKind.bits .u64).toNat) (m := k)
  exact u64w (by omega) (by omega)
theorem arg_u64 {P : Program} {H : Type} {enc : TypeId × Value → H} {w : World} {base b0 : Nat} {spare : Nat → Bool} {held : Bool} {t : TypeId} {r : Reach} {v : Value} {d : DataW H} {ps : List MemPlace}
    (ht : P.underlying t = some (.int .u64)) (hv : Value.okWide P w r b0 t v) (h : DataW.Trod enc P w base spare held t v d ps) : ∃ n : Nat, v = .int .u64 n ∧ n < 18446744073709551616 := by
  obtain ⟨n, rfl⟩ := WideShapes.okWide_int ht hv
  obtain ⟨m, e, h1⟩ := (RdT.of h).u64 ht
  have : n = m := by simpa [Value.cells] using e
  subst this
  exact ⟨m, rfl, h1⟩
structure Tn (i : Nat) (d : Dv) (h : Hd) (n : Nat) : Prop where
  t : Turn d h
  n : i ≤ n
  m : i ≤ 20
  g : h.gen ≤ 65536 + i
  s : h.seq ≤ 1 + 3 * i
theorem l9_turns (X : HP) (R : List HP) (a : Option Addr) (c : Nat) (l : List Z3) (gen : Nat) (hl1 : l.length ≤ 9223372036854775807) (hgen : gen < 18446744073709551616) (r1 : RdS 3 a l.length (l.flatMap z3D) [X]) :
    TriE Tryd.prog 6 #[.slice a l.length c, .int .u64 gen] (fun v M => v = .bool true ∧ M = X :: R) (X :: R) := by
  have rX : RdS 3 a l.length (l.flatMap z3D) (X :: R) := RdS.ent ent r1
  obtain ⟨gm, hgm, egm⟩ := u64_mask gen 65535 (by decide)
  refine Tri.of (N := 128) (args := [.slice a l.length c, .int .u64 gen]) Tryd.func6 rfl rfl rfl ?_
  refine go ?_
  refine WO.callE (vs := [.int .i64 40]) Tryd.func19 rfl rfl rfl rfl (dv_New 40 _ (by decide) (by decide)) ?_
  rintro v M ⟨db, rfl, rfl⟩
  rw [show (40 : Int).toNat = 40 from rfl]
  refine go ?_
  refine WO.sv rfl ?_
  refine SV.band rfl rfl egm ?_
  refine go ?_
  intro b7
  refine go ?_
  have fit0 : Hd.Fit ⟨1 + gm, 1, 0, 1, 20⟩ := ⟨by dsimp only; omega, by dsimp only; omega, by dsimp only; omega, by dsimp only; omega, by dsimp only; omega⟩
  have r0 : HdR ⟨1 + gm, 1, 0, 1, 20⟩ 40 := by unfold HdR; dsimp only; omega
  obtain ⟨u1, u2⟩ := turn_start fit0 r0
  have hok0 : (Dv.new 40).Ok := Dv.new_ok (by decide)
  have hS0 := fun L => h9_Save db (Dv.new 40) ⟨1 + gm, 1, 0, 1, 20⟩ L hok0 (by simp [Dv.new]) fit0
  generalize saveS (Dv.new 40) ⟨1 + gm, 1, 0, 1, 20⟩ = sv at *
  have ec : (1 : Int) + (gm : Int) = ((1 + gm : Nat) : Int) := by omega
  rw [ec]
  dsimp only [Hd.L] at hS0
  refine WO.callE (vs := [.pointer (some ⟨db, 0, none⟩), .agg (hdL (1 + gm) 1 0 1 20).toArray]) Tryd.func20 rfl rfl rfl rfl (TriE.ent ent (hS0 (pts b7 (.cells (hdL (1 + gm) 1 0 1 20).toArray 53) :: X :: R))) ?_
  rintro v M ⟨rfl, rfl⟩
  rw [u1]
  refine go ?_
  refine W.loopS 170141183460469231731687303713736630032 rfl (fun s : Nat × Dv × Hd => [(8, .int .i64 (s.1 : Int))]) (fun s => DevH db s.2.1 :: pts b7 (.cells s.2.2.L.toArray 53) :: X :: R) (fun s => Tn s.1 s.2.1 s.2.2 l.length) (fun s => 20 - s.1) (0, sv.1, ⟨1 + gm, 1, 0, 1, 20⟩) ⟨rfl, trivial⟩
    ⟨u2, Nat.zero_le _, by dsimp only; omega, by dsimp only; omega, by dsimp only; omega⟩ (Ent.app ent) ?_
  clear u1 u2 hS0
  rintro ⟨i, d, h⟩ bg ⟨t, hi1, hi2, hg, hs⟩
  dsimp only at t hi1 hi2 hg hs ⊢
  by_cases h1 : i < l.length
  rotate_left
  · refine go ?_
    refine WO.callE (vs := []) Tryd.func24 rfl rfl rfl rfl (l9_one _) ?_
    rintro v M ⟨rfl, rfl⟩
    refine go ?_
    exact ⟨rfl, [_], ⟨Res.tmp rfl, trivial⟩, X :: R, ent, rfl, rfl⟩
  by_cases h2 : i < 20
  rotate_left
  · refine go ?_
    refine WO.callE (vs := []) Tryd.func24 rfl rfl rfl rfl (l9_one _) ?_
    rintro v M ⟨rfl, rfl⟩
    refine go ?_
    exact ⟨rfl, [_], ⟨Res.tmp rfl, trivial⟩, X :: R, ent, rfl, rfl⟩
  obtain ⟨ab, ao, rfl⟩ := rX.at (by omega)
  have g0 := flat_get (g := z3D) (n := 3) (fun _ => rfl) l i 0 h1 (by decide)
  have g1 := flat_get (g := z3D) (n := 3) (fun _ => rfl) l i 1 h1 (by decide)
  have g2 := flat_get (g := z3D) (n := 3) (fun _ => rfl) l i 2 h1 (by decide)
  generalize l[i] = x at g0 g1 g2
  obtain ⟨xa, xb, xc⟩ := x
  obtain ⟨m1, hm1, em1⟩ := i64_mask xc 7 (by decide)
  obtain ⟨m2, hm2, em2⟩ := i64_mask (xc.fdiv (2 ^ (min (3 : Int).toNat (IntKind.bits .i64)))) 31 (by decide)
  obtain ⟨m3, hm3, em3⟩ := i64_mask (xc.fdiv (2 ^ (min (8 : Int).toNat (IntKind.bits .i64)))) 3 (by decide)
  obtain ⟨m0, hm0, em0⟩ := i64_mask xa 3 (by decide)
  obtain ⟨g, e, p, q, lo⟩ := h
  dsimp only at hg hs
  dsimp only [Hd.L]
  refine go ?_
  refine W.drawA rfl (by kernel_rfl) (by kernel_rfl) ?_
  refine go ?_
  refine DA.q (v := .int .i64 xc) rfl rfl (SV.loadR (i * 3 + 2) rfl rds (by omega) g2 eqq) ?_
  refine DA.q (v := .int .i64 (m1 : Int)) rfl rfl (SV.band rfl rfl em1 eqq) ?_
  refine go ?_
  refine DA.q (v := .int .i64 xc) rfl rfl (SV.loadR (i * 3 + 2) rfl rds (by omega) g2 eqq) ?_
  refine DA.q (v := .int .i64 (xc.fdiv (2 ^ (min (3 : Int).toNat (IntKind.bits .i64))))) rfl rfl (SV.shr rfl rfl (by decide) rfl eqq) ?_
  refine DA.q (v := .int .i64 (m2 : Int)) rfl rfl (SV.band rfl rfl em2 eqq) ?_
  refine go ?_
  refine DA.q (v := .int .i64 xc) rfl rfl (SV.loadR (i * 3 + 2) rfl rds (by omega) g2 eqq) ?_
  refine DA.q (v := .int .i64 (xc.fdiv (2 ^ (min (8 : Int).toNat (IntKind.bits .i64))))) rfl rfl (SV.shr rfl rfl (by decide) rfl eqq) ?_
  refine DA.q (v := .int .i64 (m3 : Int)) rfl rfl (SV.band rfl rfl em3 eqq) ?_
  refine go ?_
  refine DA.alloc rfl ?_
  intro b9
  have eg : (g : Int) + 1 = ((g + 1 : Nat) : Int) := by omega
  have ee : (1 : Int) + (m1 : Int) = ((1 + m1 : Nat) : Int) := by omega
  have eq' : (q : Int) + (m3 : Int) = ((q + m3 : Nat) : Int) := by omega
  have hp1 : 0 ≤ (m2 : Int) % 20 ∧ (m2 : Int) % 20 < 20 := by omega
  rw [eg, ee, eq']
  generalize (m2 : Int) % 20 = m2' at hp1 ⊢
  have fit : Hd.Fit ⟨g + 1, 1 + m1, m2', q + m3, 20⟩ := ⟨by dsimp only; omega, by dsimp only; omega, by dsimp only; omega, by dsimp only; omega, by dsimp only; omega⟩
  have hq1 : 1 ≤ q := t.r.2.2.2.2.1
  have hr : HdR ⟨g + 1, 1 + m1, m2', q + m3, 20⟩ 40 := by unfold HdR; dsimp only; omega
  obtain ⟨w, f1, f2, f3, f4, f5, f6, f7⟩ := turn_fall t rfl fit hr (m := (m0 : Int) - 1) (by omega) xb
  have ho : w = Hd.put ⟨g + 1, 1 + m1, m2', q + m3, 20⟩ ∨ Old9 g w := by
    rcases f7 with ⟨_, z⟩ | ⟨_, z⟩
    · exact .inl z
    · exact z
  obtain ⟨v1, v2, v3, v4⟩ := turn_load t rfl fit hr f1 f2 f3 f4 ho
  have hAok := Dv.armed t.c.ok (a := (m0 : Int) - 1) (by omega)
  have hS := fun L => h9_Save db { d with arm := (m0 : Int) - 1 } ⟨g + 1, 1 + m1, m2', q + m3, 20⟩ L hAok (by dsimp only; rw [t.w]; decide) fit
  have hArm := fun L => dv_Arm db d ((m0 : Int) - 1) L (by omega)
  have hk0 : d.kept.length ≠ 0 := by rw [t.k]; decide
  rw [if_neg hk0, show max (-1) ((m0 : Int) - 1) = (m0 : Int) - 1 by omega] at hArm
  generalize ({ d with arm := (m0 : Int) - 1 } : Dv) = d1 at *
  generalize saveS d1 ⟨g + 1, 1 + m1, m2', q + m3, 20⟩ = sv at *
  have hF := fun aa R r => dv_Fall db sv.1 aa 1 [xb] R f5 (by omega) (by simp) r
  generalize sv.1.fall [xb] = D at *
  have hL := fun L => h9_Load db D L f1.ok
  generalize loadS D = ls at *
  obtain ⟨ld, lh, le⟩ := ls
  dsimp only at v1 v2 v3 v4 hL
  dsimp only [Hd.L] at hS
  refine DA.v rfl rfl rfl ?_
  refine SV.store rfl rfl cel rfl rfl rfl frz le0 nl ?_
  refine go ?_
  refine WO.sv rfl ?_
  refine SV.loadR (v := .int .i64 xa) (i * 3 + 0) rfl rds (by omega) g0 ?_
  refine WO.sv rfl ?_
  refine SV.band rfl rfl em0 ?_
  refine go ?_
  refine WO.callE (vs := [.pointer (some ⟨db, 0, none⟩), .int .i64 ((m0 : Int) - 1)]) Tryd.func21 rfl rfl rfl rfl (TriE.ent ent (hArm (pts b9 (.cells (hdL (g + 1) (1 + m1) m2' (q + m3) 20).toArray 53) :: pts b7 (.cells (hdL g e p q lo).toArray 53) :: X :: R))) ?_
  rintro v M rfl
  refine go ?_
  refine WO.callE (vs := [.pointer (some ⟨db, 0, none⟩), .agg (hdL (g + 1) (1 + m1) m2' (q + m3) 20).toArray]) Tryd.func20 rfl rfl rfl rfl (hS _) ?_
  rintro v M ⟨rfl, rfl⟩
  refine go ?_
  refine WO.sv rfl ?_
  refine SV.loadR (v := .int .i64 xb) (i * 3 + 1) rfl rds (by omega) g1 ?_
  refine go ?_
  refine WO.sv rfl ?_
  refine SV.lit rfl rfl rfl parts rfl nl ?_
  intro bs
  refine go ?_
  refine WO.callE (vs := [.pointer (some ⟨db, 0, none⟩), .slice (some ⟨bs, 0, none⟩) 1 1]) Tryd.func22 rfl rfl rfl rfl (TriE.ent ent (hF (some ⟨bs, 0, none⟩) (pts bs (.cells [.int .i64 xb].toArray 3) :: pts b9 (.cells (hdL (g + 1) (1 + m1) m2' (q + m3) 20).toArray 53) :: pts b7 (.cells (hdL g e p q lo).toArray 53) :: X :: R) (RdS.all (sz := 1) (n := 1) rfl))) ?_
  rintro v M rfl
  refine go ?_
  refine WO.callE (vs := [.pointer (some ⟨db, 0, none⟩)]) Tryd.func23 rfl rfl rfl rfl (hL _) ?_
  rintro v M ⟨rfl, rfl⟩
  rw [v1]
  rcases v3 with rfl | rfl
  · dsimp only [Hd.L]
    refine go ?_
    intro b11
    refine go ?_
    rcases f7 with ⟨z, _⟩ | ⟨z, _⟩
    · rw [z]
      refine go ?_
      refine WO.sv rfl ?_
      refine SV.neqSt (xs := hdL (g + 1) (1 + m1) m2' (q + m3) 20) (ys := hdL (g + 1) (1 + m1) m2' (q + m3) 20) (b := true) rfl rfl rfl rfl rfl (sEq_self _) ?_
      refine go ?_
      refine WO.sv rfl ?_
      refine SV.neqSt (xs := hdL (g + 1) (1 + m1) m2' (q + m3) 20) (ys := hdL (g + 1) (1 + m1) m2' (q + m3) 20) (b := true) rfl rfl rfl rfl rfl (sEq_self _) ?_
      refine go ?_
      refine ⟨(i + 1, ld, ⟨g + 1, 1 + m1, m2', q + m3, 20⟩), ⟨rfl, trivial⟩, rfl, ⟨v2, by dsimp only; omega, by dsimp only; omega, by dsimp only; omega, by dsimp only; omega⟩, by dsimp only; omega, Ent.app ent⟩
    · rw [z]
      refine go ?_
      refine WO.sv rfl ?_
      refine SV.neqSt (xs := hdL (g + 1) (1 + m1) m2' (q + m3) 20) (ys := hdL (g + 1) (1 + m1) m2' (q + m3) 20) (b := true) rfl rfl rfl rfl rfl (sEq_self _) ?_
      refine go ?_
      refine ⟨(i + 1, ld, ⟨g + 1, 1 + m1, m2', q + m3, 20⟩), ⟨rfl, trivial⟩, rfl, ⟨v2, by dsimp only; omega, by dsimp only; omega, by dsimp only; omega, by dsimp only; omega⟩, by dsimp only; omega, Ent.app ent⟩
  · dsimp only [Hd.L]
    refine go ?_
    intro b11
    refine go ?_
    have z : sv.2 = 17 := by
      rcases f7 with ⟨_, z2⟩ | ⟨z, _⟩
      · have := congrArg Hd.gen (v4 z2)
        dsimp only at this
        omega
      · exact z
    rw [z]
    refine go ?_
    refine WO.sv rfl ?_
    refine SV.neqSt (xs := hdL g e p q lo) (ys := hdL (g + 1) (1 + m1) m2' (q + m3) 20) (b := false) rfl rfl rfl rfl rfl (by
        have : ¬((g : Int) = ((g + 1 : Nat) : Int)) := by omega
        simp only [hdL, sEq]
        rw [decide_eq_false this, Bool.false_and]) ?_
    refine go ?_
    refine WO.sv rfl ?_
    refine SV.neqSt (xs := hdL g e p q lo) (ys := hdL g e p q lo) (b := true) rfl rfl rfl rfl rfl (sEq_self _) ?_
    refine go ?_
    refine ⟨(i + 1, ld, ⟨g, e, p, q, lo⟩), ⟨rfl, trivial⟩, rfl, ⟨v2, by dsimp only; omega, by dsimp only; omega, by dsimp only; omega, by dsimp only; omega⟩, by dsimp only; omega, Ent.app ent⟩
end Go.SL
