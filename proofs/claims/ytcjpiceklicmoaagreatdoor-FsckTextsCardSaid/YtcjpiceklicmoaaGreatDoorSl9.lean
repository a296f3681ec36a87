/- SL 9: a region that draws its order, walked once, in the order of the text. Generic in the program. -/
import Derived.Test.YtcjpiceklicmoaaGreatDoorSl8
import Derived.OrdersIn
namespace Go.SL
set_option linter.unusedVariables false
set_option linter.unusedSimpArgs false

/-- Operations that only tell a value. -/
def isQ : Op → Bool
  | .move _ | .assign _ | .pick .. | .load .. | .nilCheck _ | .binOp .. | .unOp .. | .convert .. | .makeInterface .. | .field .. | .fieldAddr .. | .index .. | .indexAddr .. | .extract .. | .slice .. | .lookup .. | .makeFunc .. | .typeAssert .. | .build .. => true
  | .call { callee := .builtin b, .. } => match b with | .len | .cap | .min | .max => true | _ => false
  | _ => false
/-- Operations that make a block, and nothing else. -/
def isA : Op → Bool
  | .alloc _ | .box .. | .buildSlice .. | .makeSlice _ (.const (.int _ _)) (.const (.int _ _)) => true
  | _ => false
/-- What such a one answers. -/
def mkA : Op → Nat → Value
  | .buildSlice _ n _, b => .slice (some ⟨b, 0, none⟩) n n
  | .makeSlice _ (.const (.int _ n)) _, b => .slice (some ⟨b, 0, none⟩) n.toNat n.toNat
  | _, b => .pointer (some ⟨b, 0, none⟩)
def opAt (ops : Array Oper) (i : Nat) : Oper := (ops[i]?).getD default
/-- Is i ahead of j? -/
def lt (bf : Array Nat) (i j : Nat) : Bool := bit (bf.getD j 0) i
/-- Is i comparable with all that act? -/
def pinned (bf : Array Nat) (ops : Array Oper) (i : Nat) : Bool := (List.range ops.size).all fun e => isQ (opAt ops e).op || (isA (opAt ops e).op && !Nat.blt e i) || lt bf i e || lt bf e i
/-- What must be so of a region for the walk in the text's order to serve. -/
def drawOk (bf : Array Nat) (ops : Array Oper) : Bool :=
  ((List.range ops.size).all fun j => (List.range ops.size).all fun i =>
    (!lt bf i j || (Nat.blt i j && (opAt ops j).after.any fun e => Region.binds .any e && (Nat.beq e.on i || lt bf i e.on))) &&
    (!Nat.blt i j || lt bf i j || ((opAt ops i).apart ops (opAt ops j) && (isQ (opAt ops i).op || isQ (opAt ops j).op || (!isQ (opAt ops j).op && isA (opAt ops j).op))))) &&
  ((List.range ops.size).all fun j => (opAt ops j).after.all fun e => !Region.binds .any e || Nat.blt e.on j) &&
  Region.noSelect ops

def yF (ops : Array Oper) (f : Frm) (j : Nat) : Option Bool :=
  match (ops[j]?).bind (·.dst) with
  | some t => match f.v t with | .bool b => some b | _ => none
  | none => none
def wF (ops : Array Oper) (f : Frm) (o : Oper) : Bool := Region.wanted o (yF ops f)

def NE (L : List HP) : Prop := ∃ w, Has L (heapOf w)

/-- What stays: items, each with the operation that laid it there. -/
abbrev St := List (Option Nat × HP)
def lay (t : Option Nat) : List HP → St
  | [] => []
  | x :: l => (t, x) :: lay t l
abbrev tag (i : Nat) (A : List HP) : St := lay (some i) A
abbrev base (A : List HP) : St := lay none A
def al : St → List HP
  | [] => []
  | (_, x) :: S => x :: al S
def mayRd (bf : Array Nat) (j : Nat) : Option Nat → Bool
  | none => true
  | some i => lt bf i j
/-- What j may read of what stays: what was there, and what operations ahead of it laid there. -/
def rd (bf : Array Nat) : St → Nat → List HP
  | [], _ => []
  | (t, x) :: S, j => bif mayRd bf j t then x :: rd bf S j else rd bf S j
def nrd (bf : Array Nat) : St → Nat → List HP
  | [], _ => []
  | (t, x) :: S, j => bif mayRd bf j t then nrd bf S j else x :: nrd bf S j
theorem al_lay (t : Option Nat) : ∀ A : List HP, al (lay t A) = A
  | [] => rfl
  | x :: l => by simp [lay, al, al_lay t l]
theorem al_base (A : List HP) : al (base A) = A := al_lay none A
theorem al_tag : ∀ (S : St) (i : Nat) (A : List HP), al (S ++ tag i A) = al S ++ A
  | [], i, A => by simp [al, al_lay]
  | (t, x) :: S, i, A => by simp only [List.cons_append, al]; rw [al_tag S i A]
theorem rd_lay {bf : Array Nat} {i j : Nat} (h : lt bf i j = false) : ∀ A : List HP, rd bf (lay (some i) A) j = []
  | [] => rfl
  | x :: l => by simp [lay, rd, mayRd, h, rd_lay h l]
theorem rd_tag {bf : Array Nat} {i j : Nat} (h : lt bf i j = false) (A : List HP) : ∀ S : St, rd bf (S ++ tag i A) j = rd bf S j
  | [] => by rw [List.nil_append]; exact rd_lay h A
  | (t, x) :: S => by simp only [List.cons_append, rd]; rw [rd_tag h A S]
theorem rd_perm (bf : Array Nat) : ∀ (S : St) (j : Nat), (al S).Perm (rd bf S j ++ nrd bf S j)
  | [], j => by simp [al, rd, nrd]
  | (t, x) :: S, j => by
    simp only [al, rd, nrd]
    cases mayRd bf j t with
    | true => simp only [cond_true, List.cons_append]; exact (rd_perm bf S j).cons x
    | false => simp only [cond_false]; exact ((rd_perm bf S j).cons x).trans List.perm_middle.symm
/-- A row of its own, built at once. -/
def isL : Op → Bool
  | .buildSlice .. | .makeSlice .. => true
  | _ => false
/-- A new block: it stays, for others to read (where D says so, of rows built at once); or else it is the acting ones'. -/
def dS (D : Nat → Bool) (ops : Array Oper) (i : Nat) (S : St) (A : HP) : St := bif isL (opAt ops i).op && D i then S ++ tag i [A] else S
def dH (D : Nat → Bool) (ops : Array Oper) (i : Nat) (H : List HP) (A : HP) : List HP := bif isL (opAt ops i).op && D i then H else A :: H
section
variable (P : Program) (ro : Option Nat) (D : Nat → Bool) (bf : Array Nat) (ops : Array Oper) (K : Frm → List HP → Prop)
/-- The operations R, in this order; S stays from then on, H is the acting ones'. -/
def DS : St → List Nat → Frm → List HP → Prop
  | S, [], f, H => K f (al S ++ H)
  | S, i :: R, f, H =>
    (wF ops f (opAt ops i) = false ∧ DS S R (f.putO (opAt ops i).dst undef) H) ∨
    (wF ops f (opAt ops i) = true ∧
      if isQ (opAt ops i).op then ∃ v, SV P ro (opAt ops i) f (fun v' L' => v' = v ∧ L' = (if pinned bf ops i then al S ++ H else rd bf S i)) (if pinned bf ops i then al S ++ H else rd bf S i) ∧ DS S R (f.putO (opAt ops i).dst v) H
      else if isA (opAt ops i).op then ∃ o, (∀ w, ((opAt ops i).semAt ro f.ev).run P w = .ok (.value (mkA (opAt ops i).op w.heap.size)) (w.alloc o)) ∧ ∀ b, NE (al S ++ (pts b o :: H)) → DS (dS D ops i S (pts b o)) R (f.putO (opAt ops i).dst (mkA (opAt ops i).op b)) (dH D ops i H (pts b o))
      else OW P ro (opAt ops i) f (fun f' L' => ∃ A H', Ent L' (al S ++ A ++ H') ∧ DS (S ++ tag i A) R f' H') (al S ++ H))
end

theorem semAt_put {ro : Option Nat} {ops : Array Oper} {f : Frm} {o : Oper} {x : Option Nat} {v : Value} (hs : ∀ cs b, o.op ≠ .select cs b) (h : ∀ d, x = some d → d ∉ o.looksAt ops) : o.semAt ro (f.putO x v).ev = o.semAt ro f.ev := by
  have hev : ∀ y ∈ o.op.operands, (f.putO x v).ev y = f.ev y := by
    intro y hy
    cases x with
    | none => rfl
    | some d =>
      cases y with
      | tmp t =>
        have hne : t ≠ d := fun e => h d rfl (by
          subst e
          exact List.mem_append_left _ (List.mem_filterMap.2 ⟨.tmp t, by simpa using hy, rfl⟩))
        exact Frm.put_ne f v hne
      | _ => rfl
  cases ro with
  | none => exact execOp_congr o hs hev
  | some l =>
    unfold Oper.semAt
    cases ho : o.op
    case defer c =>
      simp only
      rw [resolve_congr c o.type (fun y hy => hev y (by rw [ho]; simpa [Op.operands] using hy))]
    all_goals exact execOp_congr o hs hev
theorem wF_put {ops : Array Oper} {f : Frm} {o : Oper} {x : Option Nat} {v : Value} (h : ∀ d, x = some d → d ∉ o.looksAt ops) : wF ops (f.putO x v) o = wF ops f o := by
  unfold wF Region.wanted
  cases hg : o.guard with
  | none => rfl
  | some gw =>
    obtain ⟨g, want⟩ := gw
    have : yF ops (f.putO x v) g = yF ops f g := by
      unfold yF
      cases ht : (ops[g]?).bind (·.dst) with
      | none => rfl
      | some t =>
        cases x with
        | none => rfl
        | some d =>
          have hne : t ≠ d := fun e => h d rfl (by subst e; simp [Oper.looksAt, hg, ht])
          simp only [Frm.putO, Frm.put_ne f v hne]
    simp only [this]
theorem putO_comm (f : Frm) {x y : Option Nat} (u v : Value) (h : ∀ d, x = some d → y ≠ some d) : (f.putO x u).putO y v = (f.putO y v).putO x u := by
  cases x with
  | none => rfl
  | some d =>
    cases y with
    | none => rfl
    | some e =>
      have hne : d ≠ e := fun he => h d rfl (he ▸ rfl)
      simp only [Frm.putO, Frm.put]
      congr 1
      funext s
      by_cases h1 : s = e
      · subst h1
        rw [beqF (fun e => hne e.symm)]; simp
      · rw [beqF h1]; simp
theorem putO_defer (f : Frm) (x : Option Nat) (u : Value) (d : Deferred) : (f.putO x u).defer d = (f.defer d).putO x u := by cases x <;> rfl

section
variable {P : Program} {ro : Option Nat} {D : Nat → Bool} {bf : Array Nat} {ops : Array Oper} {S : St} {K : Frm → List HP → Prop}

theorem SW.monoW {α : Type} {s : Sem α} {L : List HP} {K K' : α → List HP → Prop} (h : SW P s K L) (k : ∀ r L, NE L → K r L → K' r L) : SW P s K' L :=
  fun Fr w x => let ⟨r, w', L', a, b, c, d⟩ := h Fr w x; ⟨r, w', L', a, k _ _ ⟨w', let ⟨_, _, _, s, _, y, _⟩ := has_append.1 c; y.mono s⟩ b, c, d⟩
theorem Tri.monoW {g : FuncId} {args : Array Value} {L : List HP} {K K' : Value → List HP → Prop} (h : Tri P g args K L) (k : ∀ v L, NE L → K v L → K' v L) : Tri P g args K' L :=
  fun Fr w x => Calls.mono (h Fr w x) fun _ w' ⟨v, L', a, b, c, d⟩ => ⟨v, L', a, k _ _ ⟨w', let ⟨_, _, _, s, _, y, _⟩ := has_append.1 c; y.mono s⟩ b, c, d⟩
theorem OW.monoW {o : Oper} {f f0 : Frm} {L : List HP} {next next' : Frm → List HP → Prop} (he : o.semAt ro f.ev = o.semAt ro f0.ev) (hd : f.ds = f0.ds) (h : OW P ro o f next L)
    (k : ∀ v L, NE L → (next (f.putO o.dst v) L → next' (f0.putO o.dst v) L) ∧ ∀ d, next ((f.defer d).putO o.dst v) L → next' ((f0.defer d).putO o.dst v) L) : OW P ro o f0 next' L := by
  unfold OW at *
  rw [he] at h
  refine SW.monoW h ?_
  intro nx L' ne hu
  cases nx <;> simp only [upon] at hu ⊢ <;> first | exact (k _ _ ne).1 hu | exact (k _ _ ne).2 _ hu | exact Tri.monoW hu (fun v L'' ne' => (k v L'' ne').1) | exact hu

theorem ent_left {H H' : List HP} (S : List HP) (e : Ent H' H) : Ent (S ++ H') (S ++ H) := fun x y => by
  obtain ⟨h1, h2, d, a, b, c, g⟩ := has_append.1 y
  exact has_append.2 ⟨h1, h2, d, a, b, c, e _ g⟩
theorem ent_right {H H' : List HP} (S : List HP) (e : Ent H' H) : Ent (H' ++ S) (H ++ S) := fun x y => by
  obtain ⟨h1, h2, d, a, b, c, g⟩ := has_append.1 y
  exact has_append.2 ⟨h1, h2, d, a, b, e _ c, g⟩

theorem dSH (D : Nat → Bool) (ops : Array Oper) (i : Nat) (S : St) (H : List HP) (A : HP) : (al (dS D ops i S A) ++ dH D ops i H A).Perm (al S ++ (A :: H)) := by
  unfold dS dH
  cases isL (opAt ops i).op && D i with
  | false => exact List.Perm.refl _
  | true => simp only [cond_true, al_tag, List.append_assoc, List.singleton_append]; exact List.Perm.refl _
theorem dH_ent {i : Nat} {H H' : List HP} {A : HP} (e : Ent H' H) : Ent (dH D ops i H' A) (dH D ops i H A) := by
  unfold dH
  cases isL (opAt ops i).op && D i with
  | false => exact fun x y => Has.cons_of e y
  | true => exact e
theorem perm_ent {L M : List HP} (p : L.Perm M) : Ent L M := fun h x => Has.perm p h x
theorem al_map : ∀ S : St, al S = S.map (·.2)
  | [] => rfl
  | (t, x) :: S => by simp only [al, List.map_cons, al_map S]
theorem rd_map (bf : Array Nat) (j : Nat) : ∀ S : St, rd bf S j = (S.filter fun p => mayRd bf j p.1).map (·.2)
  | [] => rfl
  | (t, x) :: S => by
    simp only [rd, List.filter_cons, rd_map bf j S]
    cases mayRd bf j t <;> rfl
theorem al_perm {S S' : St} (p : S.Perm S') : (al S).Perm (al S') := by rw [al_map, al_map]; exact p.map _
theorem rd_permS {S S' : St} (j : Nat) (p : S.Perm S') : (rd bf S j).Perm (rd bf S' j) := by rw [rd_map, rd_map]; exact (p.filter _).map _
theorem dS_perm {i : Nat} {S S' : St} {A : HP} (p : S.Perm S') : (dS D ops i S A).Perm (dS D ops i S' A) := by
  unfold dS
  cases isL (opAt ops i).op && D i with
  | false => exact p
  | true => exact p.append_right _
theorem dS_tag {i x : Nat} {S : St} {A : HP} {B : List HP} : (dS D ops i (S ++ tag x B) A).Perm (dS D ops i S A ++ tag x B) := by
  unfold dS
  cases isL (opAt ops i).op && D i with
  | false => exact List.Perm.refl _
  | true =>
    simp only [cond_true]
    rw [List.append_assoc, List.append_assoc]
    exact (List.perm_append_comm).append_left S
theorem dS_swap {i j : Nat} {S : St} {A B : HP} : (dS D ops i (dS D ops j S B) A).Perm (dS D ops j (dS D ops i S A) B) := by
  conv => lhs; arg 4; unfold dS
  conv => rhs; unfold dS
  cases isL (opAt ops j).op && D j with
  | false => exact List.Perm.refl _
  | true => exact dS_tag
theorem dH_swap {i j : Nat} {H : List HP} {A B : HP} : Ent (dH D ops i (dH D ops j H B) A) (dH D ops j (dH D ops i H A) B) := by
  unfold dH
  cases isL (opAt ops j).op && D j <;> cases isL (opAt ops i).op && D i <;> first | exact Ent.refl _ | exact fun _ y => y.swap
theorem DS.ent (hK : ∀ f L L', Ent L' L → K f L → K f L') : ∀ {S : St} {R : List Nat} {f : Frm} {H H' : List HP}, Ent H' H → Ent H H' → DS P ro D bf ops K S R f H → DS P ro D bf ops K S R f H'
  | S, [], f, H, H', e, e', h => hK _ _ _ (ent_left (al S) e) h
  | S, i :: R, f, H, H', e, e', h => by
    have eS := ent_left (al S) e
    have eS' := ent_left (al S) e'
    simp only [DS] at h ⊢
    rcases h with ⟨h1, h2⟩ | ⟨h1, h2⟩
    · exact .inl ⟨h1, DS.ent hK e e' h2⟩
    · refine .inr ⟨h1, ?_⟩
      split
      · rename_i hq
        rw [if_pos hq] at h2
        obtain ⟨v, h3, h4⟩ := h2
        refine ⟨v, ?_, DS.ent hK e e' h4⟩
        split
        · rename_i hp
          rw [if_pos hp] at h3
          intro Fr w x
          obtain ⟨r, w', L', a, ⟨v', b1, b2, b3⟩, c, d⟩ := h3 Fr w (eS.app Fr _ x)
          subst b3
          exact ⟨r, w', _, a, ⟨v', b1, b2, rfl⟩, eS'.app Fr _ c, d⟩
        · rename_i hp
          rw [if_neg hp] at h3; exact h3
      · rename_i hq
        rw [if_neg hq] at h2
        split
        · rename_i ha
          rw [if_pos ha] at h2
          obtain ⟨o, h3, h4⟩ := h2
          exact ⟨o, h3, fun b ne => DS.ent hK (dH_ent e) (dH_ent e') (h4 b (let ⟨w, z⟩ := ne; ⟨w, ent_left (al S) (fun x y => Has.cons_of e y) _ z⟩))⟩
        · rename_i ha
          rw [if_neg ha] at h2
          exact SW.ent eS h2

theorem SV.frameQ {o : Oper} {f : Frm} {A A' M : List HP} {v : Value} (e : Ent A' (A ++ M)) (e' : Ent (A ++ M) A') (h : SV P ro o f (fun u L => u = v ∧ L = A) A) : SV P ro o f (fun u L => u = v ∧ L = A') A' := by
  intro Fr w x
  obtain ⟨r, w', L', a, ⟨u, b1, b2, b3⟩, c, d⟩ := h (M ++ Fr) w (by rw [← List.append_assoc]; exact e.app Fr _ x)
  subst b3
  exact ⟨r, w', A', a, ⟨u, b1, b2, rfl⟩, e'.app Fr _ (by rw [List.append_assoc]; exact c), d⟩
/-- The order of what stays does not matter. -/
theorem DS.perm (hK : ∀ f L L', Ent L' L → K f L → K f L') : ∀ {R : List Nat} {S S' : St} {f : Frm} {H : List HP}, S.Perm S' → DS P ro D bf ops K S R f H → DS P ro D bf ops K S' R f H
  | [], S, S', f, H, p, h => hK _ _ _ (perm_ent ((al_perm p).symm.append_right H)) h
  | i :: R, S, S', f, H, p, h => by
    have pa := (al_perm p).append_right H
    simp only [DS] at h ⊢
    rcases h with ⟨h1, h2⟩ | ⟨h1, h2⟩
    · exact .inl ⟨h1, DS.perm hK p h2⟩
    · refine .inr ⟨h1, ?_⟩
      split
      · rename_i hq
        rw [if_pos hq] at h2
        obtain ⟨v, h3, h4⟩ := h2
        refine ⟨v, ?_, DS.perm hK p h4⟩
        have pp : (if pinned bf ops i then al S ++ H else rd bf S i).Perm (if pinned bf ops i then al S' ++ H else rd bf S' i) := by
          split
          · exact pa
          · exact rd_permS i p
        exact SV.frameQ (M := []) (by rw [List.append_nil]; exact perm_ent pp.symm) (by rw [List.append_nil]; exact perm_ent pp) h3
      · rename_i hq
        rw [if_neg hq] at h2
        split
        · rename_i ha
          rw [if_pos ha] at h2
          obtain ⟨o, h3, h4⟩ := h2
          refine ⟨o, h3, fun b ne => DS.perm hK (dS_perm p) (h4 b ?_)⟩
          obtain ⟨w, z⟩ := ne
          exact ⟨w, Has.perm ((al_perm p).symm.append_right _) _ z⟩
        · rename_i ha
          rw [if_neg ha] at h2
          refine SW.ent (perm_ent pa.symm) (OW.monoW rfl rfl h2 (fun v L _ => ⟨fun ⟨A, H', e, k⟩ => ⟨A, H', ?_, DS.perm hK (p.append_right _) k⟩, fun d ⟨A, H', e, k⟩ => ⟨A, H', ?_, DS.perm hK (p.append_right _) k⟩⟩))
          · exact Ent.trans e (perm_ent (((al_perm p).append_right A).append_right H'))
          · exact Ent.trans e (perm_ent (((al_perm p).append_right A).append_right H'))

theorem SV.value_eq {o : Oper} {f : Frm} {A A' L : List HP} {v v' : Value} (h : SV P ro o f (fun u M => u = v ∧ M = A) A) (h' : SV P ro o f (fun u M => u = v' ∧ M = A') A') (ne : NE L) (e : Ent L A) (e' : Ent L A') : v = v' := by
  obtain ⟨w, hw⟩ := ne
  have h1 : Has (A ++ []) (heapOf w) := by rw [List.append_nil]; exact e _ hw
  have h2 : Has (A' ++ []) (heapOf w) := by rw [List.append_nil]; exact e' _ hw
  obtain ⟨r, w', L1, a, ⟨u, b1, b2, _⟩, _⟩ := h [] w h1
  obtain ⟨r', w'', L2, a', ⟨u', b1', b2', _⟩, _⟩ := h' [] w h2
  rw [a] at a'
  injection a' with a1 a2
  subst b2; subst b2'; subst a1
  rcases b1 with rfl | ⟨rfl, rfl⟩ <;> rcases b1' with q | ⟨q, rfl⟩
  · injection q
  · cases q
  · cases q
  · rfl

theorem SV.same {o : Oper} {f f0 : Frm} {A L : List HP} {K : Value → List HP → Prop} (he : o.semAt ro f.ev = o.semAt ro f0.ev) (h : SV P ro o f K L) : SV P ro o f0 K L := by unfold SV at *; rw [← he]; exact h
theorem OW.frame {o : Oper} {f : Frm} {next : Frm → List HP → Prop} {L : List HP} (M : List HP) (h : OW P ro o f next L) : OW P ro o f (fun f' L' => ∃ L1, L' = L1 ++ M ∧ next f' L1) (L ++ M) := by
  intro Fr w x
  obtain ⟨r, w', L', a, b, c, d⟩ := h (M ++ Fr) w (by rw [← List.append_assoc]; exact x)
  refine ⟨r, w', L' ++ M, a, ?_, by rw [List.append_assoc]; exact c, d⟩
  cases r <;> simp only [upon] at b ⊢ <;> first | exact ⟨_, rfl, b⟩ | exact Tri.mono (Tri.frame M b) (fun v L1 ⟨L2, e, k⟩ => ⟨L2, e, k⟩) | exact b
theorem OW.get {o : Oper} {f : Frm} {next : Frm → List HP → Prop} {L : List HP} (ne : NE L) (h : OW P ro o f next L) : ∃ v L', NE L' ∧ (next (f.putO o.dst v) L' ∨ ∃ d, next ((f.defer d).putO o.dst v) L') := by
  obtain ⟨w, x⟩ := ne
  obtain ⟨r, w', L', a, b, c, d⟩ := h [] w (by rw [List.append_nil]; exact x)
  rw [List.append_nil] at c
  cases r <;> simp only [upon] at b
  case value v => exact ⟨v, L', ⟨w', c⟩, .inl b⟩
  case skip => exact ⟨undef, L', ⟨w', c⟩, .inl b⟩
  case defer d => exact ⟨undef, L', ⟨w', c⟩, .inr ⟨d, b⟩⟩
  case enter g args =>
    obtain ⟨e, w'', fr, ⟨v, L'', _, h1, h2, _⟩, _⟩ := b [] w' (by rw [List.append_nil]; exact c) []
    rw [List.append_nil] at h2
    exact ⟨v, L'', ⟨w'', h2⟩, .inl h1⟩

/-- What is known of a pair, the one ahead in the text, neither ahead of the other in the order. -/
structure Pr (bf : Array Nat) (ops : Array Oper) (x j : Nat) : Prop where
  ap : (opAt ops x).apart ops (opAt ops j) = true
  sx : ∀ cs b, (opAt ops x).op ≠ .select cs b
  sj : ∀ cs b, (opAt ops j).op ≠ .select cs b
  kinds : isQ (opAt ops x).op = true ∨ isQ (opAt ops j).op = true ∨ (isQ (opAt ops j).op = false ∧ isA (opAt ops j).op = true)
  l1 : lt bf x j = false
  l2 : lt bf j x = false
  bx : x < ops.size
  bj : j < ops.size
  ltj : x < j
theorem Pr.pA {x j : Nat} (p : Pr bf ops x j) (q : isQ (opAt ops x).op = false) : pinned bf ops j = false := by
  cases h : pinned bf ops j with
  | false => rfl
  | true =>
    simp only [pinned, List.all_eq_true, List.mem_range] at h
    have := h x p.bx
    have hb : Nat.blt x j = true := by simpa [Nat.blt_eq] using p.ltj
    simp [q, p.l1, p.l2, hb] at this
theorem rd_dS {D : Nat → Bool} {x j : Nat} {S : St} {A : HP} (h : lt bf x j = false) : rd bf (dS D ops x S A) j = rd bf S j := by
  unfold dS
  cases isL (opAt ops x).op && D x with
  | false => rfl
  | true => exact rd_tag h [A] S
theorem Pr.px {x j : Nat} (p : Pr bf ops x j) (q : isQ (opAt ops j).op = false) (a : isA (opAt ops j).op = false) : pinned bf ops x = false := by
  cases h : pinned bf ops x with
  | false => rfl
  | true =>
    simp only [pinned, List.all_eq_true, List.mem_range] at h
    have := h j p.bj
    simp [q, a, p.l1, p.l2] at this
theorem Pr.pj {x j : Nat} (p : Pr bf ops x j) (q : isQ (opAt ops x).op = false) (a : isA (opAt ops x).op = false) : pinned bf ops j = false := by
  cases h : pinned bf ops j with
  | false => rfl
  | true =>
    simp only [pinned, List.all_eq_true, List.mem_range] at h
    have := h x p.bx
    simp [q, a, p.l1, p.l2] at this

/-- An operation that is off, or only tells a value. -/
def Step (P : Program) (ro : Option Nat) (bf : Array Nat) (ops : Array Oper) (S : St) (x : Nat) (f : Frm) (H : List HP) (u : Value) : Prop :=
  (wF ops f (opAt ops x) = false ∧ u = undef) ∨ (wF ops f (opAt ops x) = true ∧ isQ (opAt ops x).op = true ∧ SV P ro (opAt ops x) f (fun v' L' => v' = u ∧ L' = (if pinned bf ops x then al S ++ H else rd bf S x)) (if pinned bf ops x then al S ++ H else rd bf S x))
theorem Step.ds {x : Nat} {R : List Nat} {f : Frm} {H : List HP} {u : Value} (s : Step P ro bf ops S x f H u) (h : DS P ro D bf ops K S R (f.putO (opAt ops x).dst u) H) : DS P ro D bf ops K S (x :: R) f H := by
  simp only [DS]
  rcases s with ⟨a, rfl⟩ | ⟨a, b, c⟩
  · exact .inl ⟨a, h⟩
  · exact .inr ⟨a, by rw [if_pos b]; exact ⟨u, c, h⟩⟩
theorem Step.put {x : Nat} {f : Frm} {H : List HP} {u v : Value} {d : Option Nat} (hs : ∀ cs b, (opAt ops x).op ≠ .select cs b) (hl : ∀ t, d = some t → t ∉ (opAt ops x).looksAt ops) (s : Step P ro bf ops S x f H u) : Step P ro bf ops S x (f.putO d v) H u := by
  rcases s with ⟨a, rfl⟩ | ⟨a, b, c⟩
  · exact .inl ⟨by rw [wF_put hl]; exact a, rfl⟩
  · exact .inr ⟨by rw [wF_put hl]; exact a, b, SV.same (A := []) (semAt_put hs hl).symm c⟩
theorem Step.unput {x : Nat} {f : Frm} {H : List HP} {u v : Value} {d : Option Nat} (hs : ∀ cs b, (opAt ops x).op ≠ .select cs b) (hl : ∀ t, d = some t → t ∉ (opAt ops x).looksAt ops) (s : Step P ro bf ops S x (f.putO d v) H u) : Step P ro bf ops S x f H u := by
  rcases s with ⟨a, rfl⟩ | ⟨a, b, c⟩
  · exact .inl ⟨by rw [wF_put hl] at a; exact a, rfl⟩
  · exact .inr ⟨by rw [wF_put hl] at a; exact a, b, SV.same (A := []) (semAt_put hs hl) c⟩
theorem Step.defer {x : Nat} {f : Frm} {H : List HP} {u : Value} {d : Deferred} (s : Step P ro bf ops S x f H u) : Step P ro bf ops S x (f.defer d) H u := s
theorem Step.other {x j : Nat} {f : Frm} {H H' A : List HP} {u : Value} (hl : lt bf j x = false) (hp : isQ (opAt ops x).op = true → pinned bf ops x = false) (s : Step P ro bf ops S x f H u) : Step P ro bf ops (S ++ tag j A) x f H' u := by
  rcases s with ⟨a, rfl⟩ | ⟨a, b, c⟩
  · exact .inl ⟨a, rfl⟩
  · refine .inr ⟨a, b, ?_⟩
    simp only [hp b, Bool.false_eq_true, if_false, rd_tag hl A S] at c ⊢; exact c
theorem ent_mid (S H : List HP) (A : HP) : Ent (S ++ (A :: H)) ((S ++ H) ++ [A]) := fun h x => by
  refine Has.perm ?_ h x
  rw [List.append_assoc]
  exact (List.perm_append_singleton A H).symm.append_left S
theorem ent_mid' (S H : List HP) (A : HP) : Ent ((S ++ H) ++ [A]) (S ++ (A :: H)) := fun h x => by
  refine Has.perm ?_ h x
  rw [List.append_assoc]
  exact (List.perm_append_singleton A H).append_left S
theorem Step.more {x : Nat} {f : Frm} {H : List HP} {A : HP} {u : Value} (s : Step P ro bf ops S x f H u) : Step P ro bf ops S x f (A :: H) u := by
  rcases s with ⟨a, rfl⟩ | ⟨a, b, c⟩
  · exact .inl ⟨a, rfl⟩
  · refine .inr ⟨a, b, ?_⟩
    cases hp : pinned bf ops x with
    | false => simp only [hp, Bool.false_eq_true, if_false] at c ⊢; exact c
    | true => simp only [hp, if_true] at c ⊢; exact SV.frameQ (ent_mid (al S) H A) (ent_mid' (al S) H A) c

theorem Step.moreD {x j : Nat} {f : Frm} {H : List HP} {A : HP} {u : Value} (hl : lt bf j x = false) (s : Step P ro bf ops S x f H u) : Step P ro bf ops (dS D ops j S A) x f (dH D ops j H A) u := by
  rcases s with ⟨a, rfl⟩ | ⟨a, b, c⟩
  · exact .inl ⟨a, rfl⟩
  · refine .inr ⟨a, b, ?_⟩
    cases hp : pinned bf ops x with
    | false =>
      simp only [hp, Bool.false_eq_true, if_false] at c ⊢
      have : rd bf (dS D ops j S A) x = rd bf S x := by
        unfold dS
        cases isL (opAt ops j).op && D j with
        | false => rfl
        | true => exact rd_tag hl [A] S
      rw [this]; exact c
    | true =>
      simp only [hp, if_true] at c ⊢
      exact SV.frameQ (M := [A]) ((perm_ent (dSH D ops j S H A)).trans (ent_mid (al S) H A)) ((ent_mid' (al S) H A).trans (perm_ent (dSH D ops j S H A).symm)) c

theorem swapQ {x j : Nat} {R : List Nat} {f : Frm} {H : List HP} {u : Value} (p : Pr bf ops x j) (s : Step P ro bf ops S x f H u) (h : DS P ro D bf ops K S (j :: R) (f.putO (opAt ops x).dst u) H) : DS P ro D bf ops K S (j :: x :: R) f H := by
  obtain ⟨a1, a2, a3⟩ := Oper.apart_spec p.ap
  have ec : ∀ (f : Frm) (v : Value), (f.putO (opAt ops x).dst u).putO (opAt ops j).dst v = (f.putO (opAt ops j).dst v).putO (opAt ops x).dst u := fun f v => putO_comm f u v a2
  simp only [DS] at h
  rw [DS]
  rw [wF_put a1] at h
  rcases h with ⟨h1, h2⟩ | ⟨h1, h2⟩
  · exact .inl ⟨h1, (s.put p.sx a3).ds (by rw [← ec]; exact h2)⟩
  · refine .inr ⟨h1, ?_⟩
    by_cases hq : isQ (opAt ops j).op = true
    · rw [if_pos hq] at h2 ⊢
      obtain ⟨v, h3, h4⟩ := h2
      exact ⟨v, SV.same (A := []) (semAt_put p.sj a1) h3, (s.put p.sx a3).ds (by rw [← ec]; exact h4)⟩
    · rw [if_neg hq] at h2 ⊢
      by_cases ha : isA (opAt ops j).op = true
      · rw [if_pos ha] at h2 ⊢
        obtain ⟨o, h3, h4⟩ := h2
        exact ⟨o, by rw [semAt_put p.sj a1] at h3; exact h3, fun b ne => ((s.put p.sx a3).moreD p.l2).ds (by rw [← ec]; exact h4 b ne)⟩
      · rw [if_neg ha] at h2 ⊢
        have hp : isQ (opAt ops x).op = true → pinned bf ops x = false := fun _ => p.px (by simpa using hq) (by simpa using ha)
        refine OW.monoW (semAt_put p.sj a1) (by cases hdx : (opAt ops x).dst <;> rfl) h2 ?_
        intro v L ne
        refine ⟨?_, fun d => ?_⟩
        · rintro ⟨A, H', e, k⟩
          exact ⟨A, H', e, ((s.put p.sx a3).other p.l2 hp).ds (by rw [← ec]; exact k)⟩
        · rintro ⟨A, H', e, k⟩
          refine ⟨A, H', e, ((Step.put (f := f.defer d) p.sx a3 s).other p.l2 hp).ds ?_⟩
          rw [← ec, ← putO_defer]; exact k

theorem NE.mono {L M : List HP} (e : Ent L M) (n : NE L) : NE M := let ⟨w, x⟩ := n; ⟨w, e _ x⟩
theorem NE.left {S H : List HP} (n : NE (S ++ H)) : NE S := let ⟨w, x⟩ := n; ⟨w, let ⟨_, _, _, s, _, y, _⟩ := has_append.1 x; y.mono s⟩

theorem alloc_inj {w : World} {o o' : Obj} {v : Value} {s : Sem Next} (h : s.run P w = .ok (.value v) (w.alloc o)) (h' : s.run P w = .ok (.value v) (w.alloc o')) : o = o' := by
  rw [h] at h'
  injection h' with _ h2
  have h3 : (w.alloc o).heap = (w.alloc o').heap := by rw [h2]
  simp only [World.alloc] at h3
  exact (Array.push_eq_push.1 h3).1

/-- A ready operation may come first. -/
theorem pull (hK : ∀ f L L', Ent L' L → K f L → K f L') {j : Nat} {R2 : List Nat} : ∀ {S : St} {R1 : List Nat} {f : Frm} {H : List HP}, (∀ x ∈ R1, Pr bf ops x j) → NE (al S ++ H) → DS P ro D bf ops K S (R1 ++ j :: R2) f H → DS P ro D bf ops K S (j :: (R1 ++ R2)) f H
  | S, [], f, H, _, _, h => h
  | S, x :: R1, f, H, hp, ne, h => by
    have p := hp x (List.mem_cons_self ..)
    have hp' : ∀ y ∈ R1, Pr bf ops y j := fun y hy => hp y (List.mem_cons_of_mem _ hy)
    obtain ⟨a1, a2, a3⟩ := Oper.apart_spec p.ap
    have ec : ∀ (f : Frm) (u v : Value), (f.putO (opAt ops x).dst u).putO (opAt ops j).dst v = (f.putO (opAt ops j).dst v).putO (opAt ops x).dst u := fun f u v => putO_comm f u v a2
    rw [List.cons_append, DS] at h
    rcases h with ⟨h1, h2⟩ | ⟨h1, h2⟩
    · exact swapQ p (.inl ⟨h1, rfl⟩) (pull hK hp' ne h2)
    · by_cases hq : isQ (opAt ops x).op = true
      · rw [if_pos hq] at h2
        obtain ⟨v, h3, h4⟩ := h2
        exact swapQ p (.inr ⟨h1, hq, h3⟩) (pull hK hp' ne h4)
      · rw [if_neg hq] at h2
        by_cases ha : isA (opAt ops x).op = true
        · -- x makes a block
          rw [if_pos ha] at h2
          obtain ⟨o, h3, h4⟩ := h2
          obtain ⟨w0, hw0⟩ := ne
          have ne0 : NE (al S ++ (pts w0.heap.size o :: H)) := by
            refine ⟨w0.alloc o, ?_⟩
            refine ent_mid' (al S) H _ _ ?_
            have h5 : Has (pts w0.heap.size o :: (al S ++ H)) (heapOf (w0.alloc o)) := has_new hw0 (heapOf_fresh w0) (heapOf_push w0 o)
            exact Has.perm (List.perm_append_singleton _ _).symm _ h5
          have nd : ∀ {b : Nat}, NE (al S ++ (pts b o :: H)) → NE (al (dS D ops x S (pts b o)) ++ dH D ops x H (pts b o)) := fun n => n.mono (perm_ent (dSH D ops x S H _).symm)
          have g := pull hK (R2 := R2) hp' (nd ne0) (h4 _ ne0)
          rw [DS, wF_put a1] at g
          rcases g with ⟨g1, _⟩ | ⟨g1, g2⟩
          · rw [DS]
            refine .inl ⟨g1, ?_⟩
            rw [List.cons_append, DS]
            refine .inr ⟨by rw [wF_put a3]; exact h1, ?_⟩
            rw [if_neg hq, if_pos ha]
            refine ⟨o, by rw [semAt_put p.sx a3]; exact h3, fun b neb => ?_⟩
            have g := pull hK (R2 := R2) hp' (nd neb) (h4 b neb)
            rw [DS, wF_put a1] at g
            rcases g with ⟨_, g2⟩ | ⟨g3, _⟩
            · rw [← ec]; exact g2
            · rw [g1] at g3; cases g3
          · by_cases hqj : isQ (opAt ops j).op = true
            · have hpj : pinned bf ops j = false := p.pA (by simpa using hq)
              rw [if_pos hqj] at g2
              obtain ⟨v, g3, g4⟩ := g2
              simp only [hpj, Bool.false_eq_true, if_false] at g3
              rw [rd_dS p.l1] at g3
              have hv := SV.same (A := []) (semAt_put p.sj a1) g3
              rw [DS]
              refine .inr ⟨g1, ?_⟩
              rw [if_pos hqj, hpj]
              refine ⟨v, hv, ?_⟩
              rw [List.cons_append, DS]
              refine .inr ⟨by rw [wF_put a3]; exact h1, ?_⟩
              rw [if_neg hq, if_pos ha]
              refine ⟨o, by rw [semAt_put p.sx a3]; exact h3, fun b neb => ?_⟩
              have g := pull hK (R2 := R2) hp' (nd neb) (h4 b neb)
              rw [DS, wF_put a1] at g
              rcases g with ⟨g5, _⟩ | ⟨_, g2⟩
              · rw [g1] at g5; cases g5
              · rw [if_pos hqj] at g2
                obtain ⟨v', g3', g4'⟩ := g2
                simp only [hpj, Bool.false_eq_true, if_false] at g3'
                rw [rd_dS p.l1] at g3'
                have neS : NE (rd bf S j) := neb.left.mono (fun _ y => let ⟨_, _, _, s, _, z, _⟩ := has_append.1 (Has.perm (rd_perm bf S j) _ y); z.mono s)
                have := SV.value_eq hv (SV.same (A := []) (semAt_put p.sj a1) g3') neS (Ent.refl _) (Ent.refl _)
                subst this
                rw [← ec]; exact g4'
            have kj : isQ (opAt ops j).op = false ∧ isA (opAt ops j).op = true := by
              rcases p.kinds with q | q | q
              · exact absurd q hq
              · exact absurd q hqj
              · exact q
            rw [if_neg (by rw [kj.1]; simp), if_pos kj.2] at g2
            obtain ⟨oj, g3, g4⟩ := g2
            rw [semAt_put p.sj a1] at g3
            rw [DS]
            refine .inr ⟨g1, ?_⟩
            rw [if_neg (by rw [kj.1]; simp), if_pos kj.2]
            refine ⟨oj, g3, fun bj nej => ?_⟩
            rw [List.cons_append, DS]
            refine .inr ⟨by rw [wF_put a3]; exact h1, ?_⟩
            rw [if_neg hq, if_pos ha]
            refine ⟨o, by rw [semAt_put p.sx a3]; exact h3, fun b neb => ?_⟩
            have pab : (al (dS D ops j S (pts bj oj)) ++ (pts b o :: dH D ops j H (pts bj oj))).Perm (al S ++ (pts b o :: pts bj oj :: H)) :=
              List.perm_middle.trans (((dSH D ops j S H (pts bj oj)).cons _).trans List.perm_middle.symm)
            have neb2 : NE (al S ++ (pts b o :: pts bj oj :: H)) := neb.mono (perm_ent pab)
            have neb' : NE (al S ++ (pts b o :: H)) := neb2.mono (ent_left (al S) (fun x y => Has.cons_of (fun _ z => z.tail) y))
            have g := pull hK (R2 := R2) hp' (nd neb') (h4 b neb')
            rw [DS, wF_put a1] at g
            rcases g with ⟨g5, _⟩ | ⟨_, g2⟩
            · rw [g1] at g5; cases g5
            · rw [if_neg (by rw [kj.1]; simp), if_pos kj.2] at g2
              obtain ⟨oj', g3', g4'⟩ := g2
              rw [semAt_put p.sj a1] at g3'
              have := alloc_inj (g3 w0) (g3' w0)
              subst this
              rw [← ec]
              have pba : (al S ++ (pts b o :: pts bj oj :: H)).Perm (al (dS D ops x S (pts b o)) ++ (pts bj oj :: dH D ops x H (pts b o))) :=
                (((List.Perm.swap _ _ _).append_left (al S)).trans List.perm_middle).trans (((dSH D ops x S H (pts b o)).symm.cons _).trans List.perm_middle.symm)
              exact DS.perm hK dS_swap (DS.ent hK dH_swap dH_swap (g4' bj (neb2.mono (perm_ent pba))))
        · -- x acts
          rw [if_neg ha] at h2
          have hq' : isQ (opAt ops x).op = false := by simpa using hq
          have ha' : isA (opAt ops x).op = false := by simpa using ha
          have neH : ∀ {L : List HP} {A H' : List HP}, Ent L (al S ++ A ++ H') → NE L → NE (al (S ++ tag x A) ++ H') := fun e n => by rw [al_tag]; exact n.mono e
          by_cases hw : wF ops f (opAt ops j) = true
          · -- j is on
            by_cases hqj : isQ (opAt ops j).op = true
            · have hpj : pinned bf ops j = false := p.pj hq' ha'
              obtain ⟨v0, L0, ne0, hget⟩ := OW.get ne h2
              have key : ∀ {f1 : Frm} {L1 : List HP} {v1 : Value}, NE L1 → (∃ A H', Ent L1 (al S ++ A ++ H') ∧ DS P ro D bf ops K (S ++ tag x A) (R1 ++ j :: R2) (f1.putO (opAt ops x).dst v1) H') → wF ops f1 (opAt ops j) = true → f1.v = f.v →
                  ∃ v A H', SV P ro (opAt ops j) f (fun v' L' => v' = v ∧ L' = rd bf S j) (rd bf S j) ∧ Ent L1 (al S ++ A ++ H') ∧ DS P ro D bf ops K (S ++ tag x A) (R1 ++ R2) ((f1.putO (opAt ops x).dst v1).putO (opAt ops j).dst v) H' := by
                rintro f1 L1 v1 ne1 ⟨A, H', e, k⟩ hw1 hf1
                have g := pull hK (R2 := R2) hp' (neH e ne1) k
                rw [DS, wF_put a1] at g
                rcases g with ⟨g1, _⟩ | ⟨_, g2⟩
                · rw [hw1] at g1; cases g1
                · rw [if_pos hqj] at g2
                  obtain ⟨v, g3, g4⟩ := g2
                  rw [hpj, rd_tag p.l1 A S] at g3
                  refine ⟨v, A, H', SV.same (A := []) ?_ g3, e, g4⟩
                  rw [semAt_put p.sj a1]
                  congr 1
                  funext y
                  cases y <;> simp [Frm.ev, hf1]
              have hwd : ∀ d, wF ops (f.defer d) (opAt ops j) = true := fun d => hw
              obtain ⟨v, hv⟩ : ∃ v, SV P ro (opAt ops j) f (fun v' L' => v' = v ∧ L' = rd bf S j) (rd bf S j) := by
                rcases hget with k | ⟨d, k⟩
                · obtain ⟨v, _, _, a, _⟩ := key ne0 k hw rfl; exact ⟨v, a⟩
                · obtain ⟨v, _, _, a, _⟩ := key ne0 k (hwd d) rfl; exact ⟨v, a⟩
              rw [DS]
              refine .inr ⟨hw, ?_⟩
              rw [if_pos hqj, hpj]
              refine ⟨v, hv, ?_⟩
              rw [List.cons_append, DS]
              refine .inr ⟨by rw [wF_put a3]; exact h1, ?_⟩
              rw [if_neg hq, if_neg ha]
              refine OW.monoW (f := f) (semAt_put p.sx a3).symm (by cases hdj : (opAt ops j).dst <;> rfl) h2 ?_
              intro u L neL
              have neS : ∀ {A H' : List HP}, Ent L (al S ++ A ++ H') → NE (rd bf S j) := fun e => (((neL.mono e).left).left).mono (fun _ y => let ⟨_, _, _, s, _, z, _⟩ := has_append.1 (Has.perm (rd_perm bf S j) _ y); z.mono s)
              refine ⟨fun k => ?_, fun d k => ?_⟩
              · obtain ⟨v', A, H', a, b, c⟩ := key neL k hw rfl
                have := SV.value_eq hv a (neS b) (Ent.refl _) (Ent.refl _)
                subst this
                exact ⟨A, H', b, by rw [← ec]; exact c⟩
              · obtain ⟨v', A, H', a, b, c⟩ := key neL k (hwd d) rfl
                have := SV.value_eq hv a (neS b) (Ent.refl _) (Ent.refl _)
                subst this
                exact ⟨A, H', b, by rw [putO_defer, ← ec]; exact c⟩
            · have kj : isQ (opAt ops j).op = false ∧ isA (opAt ops j).op = true := by
                rcases p.kinds with q | q | q
                · exact absurd q hq
                · exact absurd q hqj
                · exact q
              obtain ⟨v0, L0, ne0, hget⟩ := OW.get ne h2
              have key : ∀ {f1 : Frm} {L1 : List HP} {v1 : Value}, NE L1 → (∃ A H', Ent L1 (al S ++ A ++ H') ∧ DS P ro D bf ops K (S ++ tag x A) (R1 ++ j :: R2) (f1.putO (opAt ops x).dst v1) H') → wF ops f1 (opAt ops j) = true → f1.v = f.v →
                  ∃ o A H', (∀ w, ((opAt ops j).semAt ro f.ev).run P w = .ok (.value (mkA (opAt ops j).op w.heap.size)) (w.alloc o)) ∧ Ent L1 (al S ++ A ++ H') ∧
                    ∀ b, NE (al (S ++ tag x A) ++ (pts b o :: H')) → DS P ro D bf ops K (dS D ops j (S ++ tag x A) (pts b o)) (R1 ++ R2) ((f1.putO (opAt ops x).dst v1).putO (opAt ops j).dst (mkA (opAt ops j).op b)) (dH D ops j H' (pts b o)) := by
                rintro f1 L1 v1 ne1 ⟨A, H', e, k⟩ hw1 hf1
                have g := pull hK (R2 := R2) hp' (neH e ne1) k
                rw [DS, wF_put a1] at g
                rcases g with ⟨g1, _⟩ | ⟨_, g2⟩
                · rw [hw1] at g1; cases g1
                · rw [if_neg hqj, if_pos kj.2] at g2
                  obtain ⟨o, g3, g4⟩ := g2
                  refine ⟨o, A, H', ?_, e, g4⟩
                  rw [semAt_put p.sj a1] at g3
                  have e2 : f1.ev = f.ev := by funext y; cases y <;> simp [Frm.ev, hf1]
                  rw [e2] at g3; exact g3
              have hwd : ∀ d, wF ops (f.defer d) (opAt ops j) = true := fun d => hw
              obtain ⟨o, ho⟩ : ∃ o, (∀ w, ((opAt ops j).semAt ro f.ev).run P w = .ok (.value (mkA (opAt ops j).op w.heap.size)) (w.alloc o)) := by
                rcases hget with k | ⟨d, k⟩
                · obtain ⟨o, _, _, a, _⟩ := key ne0 k hw rfl; exact ⟨o, a⟩
                · obtain ⟨o, _, _, a, _⟩ := key ne0 k (hwd d) rfl; exact ⟨o, a⟩
              rw [DS]
              refine .inr ⟨hw, ?_⟩
              rw [if_neg hqj, if_pos kj.2]
              refine ⟨o, ho, fun b neb => ?_⟩
              rw [List.cons_append, DS]
              refine .inr ⟨by rw [wF_put a3]; exact h1, ?_⟩
              rw [if_neg hq, if_neg ha]
              refine SW.ent ((perm_ent (dSH D ops j S H _)).trans (ent_mid (al S) H _)) ?_
              have pq : ∀ (A H' : List HP) (B : HP), ((al S ++ A) ++ (B :: H')).Perm (al (dS D ops j S B) ++ A ++ dH D ops j H' B) := by
                intro A H' B
                unfold dS dH
                cases isL (opAt ops j).op && D j with
                | false => exact List.Perm.refl _
                | true =>
                  simp only [cond_true, al_tag, List.append_assoc, List.singleton_append]
                  exact (List.perm_middle).append_left (al S)
              refine OW.monoW (f := f) (semAt_put p.sx a3).symm (by cases hdj : (opAt ops j).dst <;> rfl) (OW.frame [pts b o] h2) ?_
              intro u L neL
              refine ⟨?_, fun d => ?_⟩
              · rintro ⟨L1, rfl, k⟩
                have ne1 : NE L1 := neL.left
                obtain ⟨o', A, H', a, e, c⟩ := key ne1 k hw rfl
                have := alloc_inj (ho default) (a default)
                subst this
                have e1 : Ent (L1 ++ [pts b o]) (al S ++ A ++ (pts b o :: H')) := (ent_right [pts b o] e).trans (ent_mid' (al S ++ A) H' _)
                exact ⟨A, dH D ops j H' (pts b o), e1.trans (perm_ent (pq A H' _)), by rw [← ec]; exact DS.perm hK dS_tag (c b (by rw [al_tag]; exact neL.mono e1))⟩
              · rintro ⟨L1, rfl, k⟩
                have ne1 : NE L1 := neL.left
                obtain ⟨o', A, H', a, e, c⟩ := key ne1 k (hwd d) rfl
                have := alloc_inj (ho default) (a default)
                subst this
                have e1 : Ent (L1 ++ [pts b o]) (al S ++ A ++ (pts b o :: H')) := (ent_right [pts b o] e).trans (ent_mid' (al S ++ A) H' _)
                exact ⟨A, dH D ops j H' (pts b o), e1.trans (perm_ent (pq A H' _)), by rw [putO_defer, ← ec]; exact DS.perm hK dS_tag (c b (by rw [al_tag]; exact neL.mono e1))⟩
          · -- j is off
            have hw' : wF ops f (opAt ops j) = false := by simpa using hw
            rw [DS]
            refine .inl ⟨hw', ?_⟩
            rw [List.cons_append, DS]
            refine .inr ⟨by rw [wF_put a3]; exact h1, ?_⟩
            rw [if_neg hq, if_neg ha]
            refine OW.monoW (f := f) (semAt_put p.sx a3).symm (by cases hdj : (opAt ops j).dst <;> rfl) h2 ?_
            intro u L neL
            refine ⟨?_, fun d => ?_⟩
            · rintro ⟨A, H', e, k⟩
              have g := pull hK (R2 := R2) hp' (neH e neL) k
              rw [DS, wF_put a1] at g
              rcases g with ⟨_, g2⟩ | ⟨g1, _⟩
              · exact ⟨A, H', e, by rw [← ec]; exact g2⟩
              · rw [hw'] at g1; cases g1
            · rintro ⟨A, H', e, k⟩
              have g := pull hK (R2 := R2) hp' (neH e neL) k
              rw [DS, wF_put a1] at g
              rcases g with ⟨_, g2⟩ | ⟨g1, _⟩
              · exact ⟨A, H', e, by rw [putO_defer, ← ec]; exact g2⟩
              · rw [show wF ops (f.defer d) (opAt ops j) = wF ops f (opAt ops j) from rfl, hw'] at g1; cases g1

theorem yF_eq {N : Nat} {a : Act} {f : Frm} (r : Rep N a f) (hN : ops.all (fun o => dOk N o.dst) = true) (j : Nat) : yielded ops a.tmps j = yF ops f j := by
  unfold yielded yF
  cases h : (ops[j]?).bind (·.dst) with
  | none => rfl
  | some t =>
    have ht : t < N := by
      cases ho : ops[j]? with
      | none => simp [ho] at h
      | some o =>
        simp [ho] at h
        obtain ⟨hj, ho'⟩ := Array.getElem?_eq_some_iff.1 ho
        have := Array.all_eq_true.1 hN j hj
        rw [ho', h] at this
        simpa [dOk, Nat.blt_eq] using this
    have ht' : t < a.tmps.size := by rw [r.size]; exact ht
    have hg := r.get t
    rw [Array.getD_eq_getD_getElem?, Array.getElem?_eq_getElem ht', Option.getD_some] at hg
    simp only [Option.bind_some, Array.getElem?_eq_getElem ht', hg]
    cases f.v t <;> rfl
theorem wF_eq {N : Nat} {a : Act} {f : Frm} (r : Rep N a f) (hN : ops.all (fun o => dOk N o.dst) = true) (o : Oper) : Region.wanted o (yielded ops a.tmps) = wF ops f o := by
  unfold wF
  congr 1
  funext j
  exact yF_eq r hN j

/-- Which are done, and which are left. -/
structure Inv (bf : Array Nat) (ops : Array Oper) (listed : Array Bool) (R : List Nat) : Prop where
  size : listed.size = ops.size
  left : ∀ i, i ∈ R ↔ i < ops.size ∧ listed.getD i true = false
  closed : ∀ j i, j < ops.size → listed.getD j true = true → lt bf i j = true → listed.getD i true = true
  nodup : R.Pairwise (· < ·)

theorem getD_set_tt {listed : Array Bool} {i j : Nat} (h : listed.getD j true = true) : (listed.setIfInBounds i true).getD j true = true := by
  by_cases e : i = j
  · subst e
    by_cases hs : i < listed.size
    · simp [Array.getD_eq_getD_getElem?, hs]
    · simp [Array.getD_eq_getD_getElem?, Array.getElem?_eq_none (show (listed.setIfInBounds i true).size ≤ i by simp; omega)]
  · rw [getD_set_ne true e]; exact h
theorem opAt_of {i : Nat} (h : i < ops.size) : ops[i]? = some (opAt ops i) := by simp [opAt, h]
theorem mO_mOps {i : Nat} (h : i < ops.size) : ∀ t, bit (mOps ops.toList) t = false → bit (mO (opAt ops i).dst) t = false := by
  have key : ∀ (l : List Oper) (o : Oper), o ∈ l → ∀ t, bit (mOps l) t = false → bit (mO o.dst) t = false := by
    intro l
    induction l with
    | nil => intro o ho; cases ho
    | cons x l ih =>
      intro o ho t ht
      simp only [mOps, bit_or, Bool.or_eq_false_iff] at ht
      rcases List.mem_cons.1 ho with rfl | ho
      · exact ht.1
      · exact ih o ho t ht.2
  intro t
  refine key _ _ ?_ t
  simp only [opAt, Array.getElem?_eq_getElem h, Option.getD_some]
  exact Array.mem_toList_iff.2 (Array.getElem_mem h)

theorem explore {N : Nat} {Q : Post} {f0 : Frm} {Fr : List HP} {w0 : World} (hK : ∀ f L L', Ent L' L → K f L → K f L') (hq : ∀ f L, K f L → ∃ M, Ent L M ∧ Q .normal f M) (chk : drawOk bf ops = true) (hN : ops.all (fun o => dOk N o.dst) = true) :
    ∀ (n : Nat) (fuel : Nat) (R : List Nat) (listed : Array Bool) (f : Frm) (S : St) (H : List HP) (w : World) (a : Act), R.length = n → n ≤ fuel → Inv bf ops listed R → DS P ro D bf ops K S R f H → Rep N a f → Has (al S ++ H ++ Fr) (heapOf w) → Keep w0 w → Kept (mOps ops.toList) f f0 →
      wpAnyIn (FW ro) 0 P .any ops (lift N (mOps ops.toList) Fr w0 f0 Q) fuel listed a w := by
  simp only [drawOk, Bool.and_eq_true, List.all_eq_true, List.mem_range] at chk
  obtain ⟨⟨c1, c2⟩, c3⟩ := chk
  have sel := Region.noSelect_spec c3
  have hsel : ∀ j, j < ops.size → ∀ cs b, (opAt ops j).op ≠ .select cs b := fun j hj cs b => sel j _ cs b (opAt_of hj)
  intro n
  induction n with
  | zero =>
    intro fuel R listed f S H w a hn hf inv h r x kp kt
    have hR : R = [] := List.eq_nil_of_length_eq_zero hn
    subst hR
    have hr : Region.ready .any ops listed = [] := by
      apply List.eq_nil_iff_forall_not_mem.2
      intro j hj
      obtain ⟨h1, o, ho, _⟩ := mem_ready.1 hj
      have h2 := (inv.left j).2 ⟨(Array.getElem?_eq_some_iff.1 ho).1, h1⟩
      cases h2
    obtain ⟨M, eM, qM⟩ := hq _ _ h
    have fin : lift N (mOps ops.toList) Fr w0 f0 Q .normal a w := ⟨f, M, r, qM, eM.app Fr _ x, kp, kt⟩
    cases fuel with
    | zero => exact ⟨hr, fin⟩
    | succ fuel => exact ⟨fun _ => fin, fun i hi => by rw [hr] at hi; cases hi⟩
  | succ n ih =>
    intro fuel R listed f S H w a hn hf inv h r x kp kt
    obtain ⟨fuel, rfl⟩ : ∃ k, fuel = k + 1 := ⟨fuel - 1, by omega⟩
    refine ⟨fun hr => ?_, fun j hj => ?_⟩
    · -- something is ready
      obtain ⟨i, R', rfl⟩ : ∃ i R', R = i :: R' := by cases R with | nil => simp at hn | cons i R' => exact ⟨i, R', rfl⟩
      obtain ⟨hi, hl⟩ := (inv.left i).1 (List.mem_cons_self ..)
      have hri : i ∈ Region.ready .any ops listed := by
        refine mem_ready.2 ⟨hl, _, opAt_of hi, fun e he hb => ?_⟩
        have hlt : e.on < i := by
          have h5 := c2 i hi
          obtain ⟨k, hk, rfl⟩ := Array.mem_iff_getElem.1 he
          have h6 := Array.all_eq_true.1 h5 k hk
          simp only [hb, Bool.not_true, Bool.false_or] at h6
          simpa [Nat.blt_eq] using h6
        have hd : ∀ d, listed.getD e.on d = listed.getD e.on true := fun d => by
          have : e.on < listed.size := by rw [inv.size]; omega
          simp [Array.getD_eq_getD_getElem?, Array.getElem?_eq_getElem this]
        cases hle : listed.getD e.on true with
        | true => rw [hd]; exact hle
        | false =>
          have := (inv.left e.on).2 ⟨by omega, hle⟩
          rcases List.mem_cons.1 this with h7 | h7
          · omega
          · have := List.rel_of_pairwise_cons inv.nodup h7; omega
      rw [hr] at hri; cases hri
    · obtain ⟨hl, o, ho, hpre⟩ := mem_ready.1 hj
      have hjs : j < ops.size := (Array.getElem?_eq_some_iff.1 ho).1
      have ho' : o = opAt ops j := by have := opAt_of hjs; rw [this] at ho; exact (Option.some.inj ho).symm
      subst ho'
      have hjR : j ∈ R := (inv.left j).2 ⟨hjs, hl⟩
      obtain ⟨R1, R2, rfl⟩ := List.append_of_mem hjR
      have hpw := inv.nodup
      -- what is ahead of j is done
      have ahead : ∀ i, lt bf i j = true → listed.getD i true = true := by
        intro i hij
        refine Classical.byContradiction fun hij0 => ?_
        refine hij0 ?_
        have hi : i < ops.size := by
          rcases Nat.lt_or_ge i ops.size with g | g
          · exact g
          · exact absurd g (by intro g; exact hij0 (by simp [Array.getD_eq_getD_getElem?, Array.getElem?_eq_none (show listed.size ≤ i by rw [inv.size]; exact g)]))
        have h5 := c1 j hjs i hi
        have h6 := h5.1
        simp only [hij, Bool.not_true, Bool.false_or, Bool.and_eq_true] at h6
        obtain ⟨_, h7⟩ := h6
        obtain ⟨k, hk, h8⟩ := Array.any_eq_true.1 h7
        simp only [Bool.and_eq_true, Bool.or_eq_true] at h8
        obtain ⟨hb, h9⟩ := h8
        have hle := hpre _ (Array.getElem_mem hk) hb
        have hlt : (opAt ops j).after[k].on < j := by
          have h10 := Array.all_eq_true.1 (c2 j hjs) k hk
          simp only [hb, Bool.not_true, Bool.false_or] at h10
          simpa [Nat.blt_eq] using h10
        have hd : listed.getD (opAt ops j).after[k].on true = true := by
          have : (opAt ops j).after[k].on < listed.size := by rw [inv.size]; omega
          simp [Array.getD_eq_getD_getElem?, Array.getElem?_eq_getElem this] at hle ⊢; exact hle
        rcases h9 with h9 | h9
        · have : (opAt ops j).after[k].on = i := Nat.eq_of_beq_eq_true h9
          rw [← this]; exact hd
        · exact inv.closed _ _ (by omega) hd h9
      have hpr : ∀ x ∈ R1, Pr bf ops x j := by
        intro x hx
        have hxj : x < j := (List.pairwise_append.1 hpw).2.2 x hx j (List.mem_cons_self ..)
        obtain ⟨hxs, hxl⟩ := (inv.left x).1 (List.mem_append_left _ hx)
        have l1 : lt bf x j = false := by
          cases hh : lt bf x j with
          | false => rfl
          | true => rw [ahead x hh] at hxl; cases hxl
        have l2 : lt bf j x = false := by
          cases hh : lt bf j x with
          | false => rfl
          | true =>
            have h5 := c1 x hxs j hjs
            have h6 := h5.1
            simp only [hh, Bool.not_true, Bool.false_or, Bool.and_eq_true] at h6
            have : j < x := by simpa [Nat.blt_eq] using h6.1
            omega
        have h5 := c1 j hjs x hxs
        have h6 := h5.2
        have hb : Nat.blt x j = true := by simpa [Nat.blt_eq] using hxj
        simp only [hb, l1, Bool.not_true, Bool.false_or, Bool.and_eq_true, Bool.or_eq_true, Bool.not_eq_true'] at h6
        refine ⟨h6.1, hsel x hxs, hsel j hjs, ?_, l1, l2, hxs, hjs, hxj⟩
        rcases h6.2 with (g | g) | g
        · exact .inl g
        · exact .inr (.inl g)
        · exact .inr (.inr g)
      have ne : NE (al S ++ H) := ⟨w, let ⟨_, _, _, s, _, y, _⟩ := has_append.1 x; y.mono s⟩
      have g := pull hK hpr ne h
      have inv' : Inv bf ops (listed.setIfInBounds j true) (R1 ++ R2) := by
        refine ⟨by simp [inv.size], fun i => ?_, fun j' i hj' hl' hij => ?_, ?_⟩
        · have e := inv.left i
          by_cases hij : i = j
          · subst hij
            have : i ∉ R1 ++ R2 := by
              intro hm
              rcases List.mem_append.1 hm with q | q
              · have := (List.pairwise_append.1 hpw).2.2 i q i (List.mem_cons_self ..); omega
              · have := List.rel_of_pairwise_cons (List.pairwise_append.1 hpw).2.1 q; omega
            simp [this, Array.getD_eq_getD_getElem?, inv.size, hjs]
          · rw [getD_set_ne true (fun q => hij q.symm), ← e]
            simp only [List.mem_append, List.mem_cons, hij, false_or]
        · by_cases h1 : j' = j
          · subst h1; exact getD_set_tt (ahead i hij)
          · rw [getD_set_ne true (fun q => h1 q.symm)] at hl'
            exact getD_set_tt (inv.closed j' i hj' hl' hij)
        · have := List.pairwise_append.1 hpw
          exact List.pairwise_append.2 ⟨this.1, (List.pairwise_cons.1 this.2.1).2, fun x hx y hy => this.2.2 x hx y (List.mem_cons_of_mem _ hy)⟩
      have hlen : (R1 ++ R2).length = n := by simp at hn ⊢; omega
      have hdj : dOk N (opAt ops j).dst = true := by
        have := Array.all_eq_true.1 hN j hjs
        simpa [opAt, hjs] using this
      have hkt : ∀ v, Kept (mOps ops.toList) (f.putO (opAt ops j).dst v) f := fun v => Kept.putO f _ v (mO_mOps hjs)
      have next : ∀ {f' : Frm} {S : St} {H' : List HP} {w' : World} {a' : Act}, DS P ro D bf ops K S (R1 ++ R2) f' H' → Rep N a' f' → Has (al S ++ H' ++ Fr) (heapOf w') → Keep w w' → Kept (mOps ops.toList) f' f →
          wpAnyIn (FW ro) 0 P .any ops (lift N (mOps ops.toList) Fr w0 f0 Q) fuel (listed.setIfInBounds j true) a' w' :=
        fun h r x kp' kt' => ih fuel _ _ _ _ _ _ _ hlen (by omega) inv' h r x (kp.trans kp') (kt'.trans kt)
      unfold wpOpIn
      simp only [opAt_of hjs]
      rw [wF_eq r hN]
      rw [DS] at g
      rcases g with ⟨g1, g2⟩ | ⟨g1, g2⟩
      · rw [if_neg (by rw [g1]; simp)]
        exact ⟨fun _ _ => trivial, next g2 (r.put hdj undef) x (Keep.refl _) (hkt undef)⟩
      · rw [if_pos g1]
        unfold Oper.wpIn
        refine ⟨fun _ _ => trivial, ?_⟩
        rw [show a.eval = f.ev from r.eval, show (FW ro).round = ro from rfl]
        by_cases hqj : isQ (opAt ops j).op = true
        · rw [if_pos hqj] at g2
          obtain ⟨v, g3, g4⟩ := g2
          cases hp : pinned bf ops j with
          | true =>
            simp only [hp, if_true] at g3
            obtain ⟨nx, w', L', e1, ⟨u, e2, e3, e4⟩, e5, e6⟩ := g3 Fr w x
            subst e3; subst e4
            rw [e1]
            rcases e2 with rfl | ⟨rfl, rfl⟩
            · exact next g4 (r.put hdj _) e5 e6 (hkt _)
            · exact next g4 (r.put hdj _) e5 e6 (hkt _)
          | false =>
            simp only [hp, Bool.false_eq_true, if_false] at g3
            obtain ⟨nx, w', L', e1, ⟨u, e2, e3, e4⟩, e5, e6⟩ := g3 (nrd bf S j ++ (H ++ Fr)) w (by rw [← List.append_assoc]; refine Has.perm ((rd_perm bf S j).append_right (H ++ Fr)) _ ?_; rw [← List.append_assoc]; exact x)
            subst e3; subst e4
            have e5 : Has (al S ++ H ++ Fr) (heapOf w') := by
              rw [← List.append_assoc] at e5
              rw [List.append_assoc]; exact Has.perm ((rd_perm bf S j).symm.append_right (H ++ Fr)) _ e5
            rw [e1]
            rcases e2 with rfl | ⟨rfl, rfl⟩
            · exact next g4 (r.put hdj _) e5 e6 (hkt _)
            · exact next g4 (r.put hdj _) e5 e6 (hkt _)
        · rw [if_neg hqj] at g2
          by_cases haj : isA (opAt ops j).op = true
          · rw [if_pos haj] at g2
            obtain ⟨ob, g3, g4⟩ := g2
            rw [g3 w]
            have e5 : Has (al S ++ (pts w.heap.size ob :: H) ++ Fr) (heapOf (w.alloc ob)) := by
              have h5 : Has (pts w.heap.size ob :: (al S ++ H ++ Fr)) (heapOf (w.alloc ob)) := has_new x (heapOf_fresh w) (heapOf_push w ob)
              refine Has.perm ?_ _ h5
              rw [← List.cons_append]
              exact (List.perm_middle.symm).append_right Fr
            refine next (g4 _ ⟨w.alloc ob, let ⟨_, _, _, s, _, y, _⟩ := has_append.1 e5; y.mono s⟩) (r.put hdj _) (Has.perm ((dSH D ops j S H _).symm.append_right Fr) _ e5) ⟨rfl, rfl, rfl, by show w.heap.size ≤ (w.heap.push ob).size; rw [Array.size_push]; omega⟩ (hkt _)
          · rw [if_neg haj] at g2
            obtain ⟨nx, w', L', e1, e2, e5, e6⟩ := g2 Fr w x
            rw [e1]
            cases nx <;> simp only [upon] at e2 <;> simp only [Oper.uponIn]
            case value v =>
              obtain ⟨A, H', e, k⟩ := e2
              exact next k (r.put hdj _) (by rw [al_tag]; exact e.app Fr _ e5) e6 (hkt _)
            case skip =>
              obtain ⟨A, H', e, k⟩ := e2
              exact next k (r.put hdj _) (by rw [al_tag]; exact e.app Fr _ e5) e6 (hkt _)
            case defer d =>
              obtain ⟨A, H', e, k⟩ := e2
              have r2 : Rep N { a with defers := d :: a.defers } (f.defer d) := ⟨r.size, r.get, by simp [Frm.defer, r.ds]⟩
              exact next k (r2.put hdj undef) (by rw [al_tag]; exact e.app Fr _ e5) e6 ((Kept.putO (f.defer d) _ undef (mO_mOps hjs)).trans (fun _ _ => rfl))
            case enter gg args =>
              refine ⟨fun h => by simp [FW] at h, callsIn_FW (Calls.mono (e2 Fr w' e5) ?_)⟩
              rintro e w'' ⟨v, L'', rfl, ⟨A, H', e, k⟩, hh', hk'⟩
              exact next k (r.put hdj v) (by rw [al_tag]; exact e.app Fr _ hh') (e6.trans hk') (hkt v)
            all_goals exact e2

/-- The same, where one operation is behind all others: it may turn what stays. -/
theorem exploreT {N : Nat} {Q : Post} {f0 : Frm} {Fr : List HP} {w0 : World} {tl : List Nat} (hK : ∀ f L L', Ent L' L → K f L → K f L') (hq : ∀ f L, K f L → ∃ M, Ent L M ∧ Q .normal f M) (chk : drawOk bf ops = true) (hN : ops.all (fun o => dOk N o.dst) = true)
    (hfin : ∀ x, x < ops.size → x ∉ tl → ∀ t ∈ tl, lt bf x t = true) :
    ∀ (n : Nat) (fuel : Nat) (R : List Nat) (listed : Array Bool) (f : Frm) (S : St) (H : List HP) (w : World) (a : Act), R.length = n → n + tl.length ≤ fuel → Inv bf ops listed (R ++ tl) → DS P ro D bf ops (fun f L => ∃ M, Ent L M ∧ DS P ro D bf ops K [] tl f M) S R f H → Rep N a f → Has (al S ++ H ++ Fr) (heapOf w) → Keep w0 w → Kept (mOps ops.toList) f f0 →
      wpAnyIn (FW ro) 0 P .any ops (lift N (mOps ops.toList) Fr w0 f0 Q) fuel listed a w := by
  have chk0 := chk
  simp only [drawOk, Bool.and_eq_true, List.all_eq_true, List.mem_range] at chk
  obtain ⟨⟨c1, c2⟩, c3⟩ := chk
  have sel := Region.noSelect_spec c3
  have hsel : ∀ j, j < ops.size → ∀ cs b, (opAt ops j).op ≠ .select cs b := fun j hj cs b => sel j _ cs b (opAt_of hj)
  intro n
  induction n with
  | zero =>
    intro fuel R listed f S H w a hn hf inv h r x kp kt
    have hR : R = [] := List.eq_nil_of_length_eq_zero hn
    subst hR
    obtain ⟨M, eM, hM⟩ := h
    exact explore hK hq chk0 hN tl.length fuel tl listed f [] M w a rfl (by omega) inv hM r (eM.app Fr _ x) kp kt
  | succ n ih =>
    intro fuel R listed f S H w a hn hf inv h r x kp kt
    obtain ⟨fuel, rfl⟩ : ∃ k, fuel = k + 1 := ⟨fuel - 1, by omega⟩
    refine ⟨fun hr => ?_, fun j hj => ?_⟩
    · -- something is ready
      obtain ⟨i, R', rfl⟩ : ∃ i R', R = i :: R' := by cases R with | nil => simp at hn | cons i R' => exact ⟨i, R', rfl⟩
      rw [List.cons_append] at inv
      obtain ⟨hi, hl⟩ := (inv.left i).1 (List.mem_cons_self ..)
      have hri : i ∈ Region.ready .any ops listed := by
        refine mem_ready.2 ⟨hl, _, opAt_of hi, fun e he hb => ?_⟩
        have hlt : e.on < i := by
          have h5 := c2 i hi
          obtain ⟨k, hk, rfl⟩ := Array.mem_iff_getElem.1 he
          have h6 := Array.all_eq_true.1 h5 k hk
          simp only [hb, Bool.not_true, Bool.false_or] at h6
          simpa [Nat.blt_eq] using h6
        have hd : ∀ d, listed.getD e.on d = listed.getD e.on true := fun d => by
          have : e.on < listed.size := by rw [inv.size]; omega
          simp [Array.getD_eq_getD_getElem?, Array.getElem?_eq_getElem this]
        cases hle : listed.getD e.on true with
        | true => rw [hd]; exact hle
        | false =>
          have := (inv.left e.on).2 ⟨by omega, hle⟩
          rcases List.mem_cons.1 this with h7 | h7
          · omega
          · have := List.rel_of_pairwise_cons inv.nodup h7; omega
      rw [hr] at hri; cases hri
    · obtain ⟨hl, o, ho, hpre⟩ := mem_ready.1 hj
      have hjs : j < ops.size := (Array.getElem?_eq_some_iff.1 ho).1
      have ho' : o = opAt ops j := by have := opAt_of hjs; rw [this] at ho; exact (Option.some.inj ho).symm
      subst ho'
      -- what is ahead of j is done
      have ahead : ∀ i, lt bf i j = true → listed.getD i true = true := by
        intro i hij
        refine Classical.byContradiction fun hij0 => ?_
        refine hij0 ?_
        have hi : i < ops.size := by
          rcases Nat.lt_or_ge i ops.size with g | g
          · exact g
          · exact absurd g (by intro g; exact hij0 (by simp [Array.getD_eq_getD_getElem?, Array.getElem?_eq_none (show listed.size ≤ i by rw [inv.size]; exact g)]))
        have h5 := c1 j hjs i hi
        have h6 := h5.1
        simp only [hij, Bool.not_true, Bool.false_or, Bool.and_eq_true] at h6
        obtain ⟨_, h7⟩ := h6
        obtain ⟨k, hk, h8⟩ := Array.any_eq_true.1 h7
        simp only [Bool.and_eq_true, Bool.or_eq_true] at h8
        obtain ⟨hb, h9⟩ := h8
        have hle := hpre _ (Array.getElem_mem hk) hb
        have hlt : (opAt ops j).after[k].on < j := by
          have h10 := Array.all_eq_true.1 (c2 j hjs) k hk
          simp only [hb, Bool.not_true, Bool.false_or] at h10
          simpa [Nat.blt_eq] using h10
        have hd : listed.getD (opAt ops j).after[k].on true = true := by
          have : (opAt ops j).after[k].on < listed.size := by rw [inv.size]; omega
          simp [Array.getD_eq_getD_getElem?, Array.getElem?_eq_getElem this] at hle ⊢; exact hle
        rcases h9 with h9 | h9
        · have : (opAt ops j).after[k].on = i := Nat.eq_of_beq_eq_true h9
          rw [← this]; exact hd
        · exact inv.closed _ _ (by omega) hd h9
      have hjR : j ∈ R := by
        rcases List.mem_append.1 ((inv.left j).2 ⟨hjs, hl⟩) with q | q
        · exact q
        · obtain ⟨i, R', rfl⟩ : ∃ i R', R = i :: R' := by cases R with | nil => simp at hn | cons i R' => exact ⟨i, R', rfl⟩
          obtain ⟨hi, hli⟩ := (inv.left i).1 (List.mem_append_left _ (List.mem_cons_self ..))
          by_cases hil : i ∈ tl
          · have := (List.pairwise_append.1 inv.nodup).2.2 i (List.mem_cons_self ..) i hil
            omega
          · have := ahead i (hfin i hi hil j q)
            rw [this] at hli; cases hli
      obtain ⟨R1, R2, rfl⟩ := List.append_of_mem hjR
      rw [show (R1 ++ j :: R2) ++ tl = R1 ++ j :: (R2 ++ tl) by simp] at inv
      have hpw := inv.nodup
      have hpr : ∀ x ∈ R1, Pr bf ops x j := by
        intro x hx
        have hxj : x < j := (List.pairwise_append.1 hpw).2.2 x hx j (List.mem_cons_self ..)
        obtain ⟨hxs, hxl⟩ := (inv.left x).1 (List.mem_append_left _ hx)
        have l1 : lt bf x j = false := by
          cases hh : lt bf x j with
          | false => rfl
          | true => rw [ahead x hh] at hxl; cases hxl
        have l2 : lt bf j x = false := by
          cases hh : lt bf j x with
          | false => rfl
          | true =>
            have h5 := c1 x hxs j hjs
            have h6 := h5.1
            simp only [hh, Bool.not_true, Bool.false_or, Bool.and_eq_true] at h6
            have : j < x := by simpa [Nat.blt_eq] using h6.1
            omega
        have h5 := c1 j hjs x hxs
        have h6 := h5.2
        have hb : Nat.blt x j = true := by simpa [Nat.blt_eq] using hxj
        simp only [hb, l1, Bool.not_true, Bool.false_or, Bool.and_eq_true, Bool.or_eq_true, Bool.not_eq_true'] at h6
        refine ⟨h6.1, hsel x hxs, hsel j hjs, ?_, l1, l2, hxs, hjs, hxj⟩
        rcases h6.2 with (g | g) | g
        · exact .inl g
        · exact .inr (.inl g)
        · exact .inr (.inr g)
      have ne : NE (al S ++ H) := ⟨w, let ⟨_, _, _, s, _, y, _⟩ := has_append.1 x; y.mono s⟩
      have g := pull (fun f L L' e ⟨M, e', q⟩ => ⟨M, e.trans e', q⟩) hpr ne h
      have inv' : Inv bf ops (listed.setIfInBounds j true) (R1 ++ (R2 ++ tl)) := by
        refine ⟨by simp [inv.size], fun i => ?_, fun j' i hj' hl' hij => ?_, ?_⟩
        · have e := inv.left i
          by_cases hij : i = j
          · subst hij
            have : i ∉ R1 ++ (R2 ++ tl) := by
              intro hm
              rcases List.mem_append.1 hm with q | q
              · have := (List.pairwise_append.1 hpw).2.2 i q i (List.mem_cons_self ..); omega
              · have := List.rel_of_pairwise_cons (List.pairwise_append.1 hpw).2.1 q; omega
            simp [this, Array.getD_eq_getD_getElem?, inv.size, hjs]
          · rw [getD_set_ne true (fun q => hij q.symm), ← e]
            simp only [List.mem_append, List.mem_cons, hij, false_or]
        · by_cases h1 : j' = j
          · subst h1; exact getD_set_tt (ahead i hij)
          · rw [getD_set_ne true (fun q => h1 q.symm)] at hl'
            exact getD_set_tt (inv.closed j' i hj' hl' hij)
        · have := List.pairwise_append.1 hpw
          exact List.pairwise_append.2 ⟨this.1, (List.pairwise_cons.1 this.2.1).2, fun x hx y hy => this.2.2 x hx y (List.mem_cons_of_mem _ hy)⟩
      have hlen : (R1 ++ R2).length = n := by simp at hn ⊢; omega
      have hdj : dOk N (opAt ops j).dst = true := by
        have := Array.all_eq_true.1 hN j hjs
        simpa [opAt, hjs] using this
      have hkt : ∀ v, Kept (mOps ops.toList) (f.putO (opAt ops j).dst v) f := fun v => Kept.putO f _ v (mO_mOps hjs)
      have next : ∀ {f' : Frm} {S : St} {H' : List HP} {w' : World} {a' : Act}, DS P ro D bf ops (fun f L => ∃ M, Ent L M ∧ DS P ro D bf ops K [] tl f M) S (R1 ++ R2) f' H' → Rep N a' f' → Has (al S ++ H' ++ Fr) (heapOf w') → Keep w w' → Kept (mOps ops.toList) f' f →
          wpAnyIn (FW ro) 0 P .any ops (lift N (mOps ops.toList) Fr w0 f0 Q) fuel (listed.setIfInBounds j true) a' w' :=
        fun h r x kp' kt' => ih fuel _ _ _ _ _ _ _ hlen (by omega) (by rw [List.append_assoc]; exact inv') h r x (kp.trans kp') (kt'.trans kt)
      unfold wpOpIn
      simp only [opAt_of hjs]
      rw [wF_eq r hN]
      rw [DS] at g
      rcases g with ⟨g1, g2⟩ | ⟨g1, g2⟩
      · rw [if_neg (by rw [g1]; simp)]
        exact ⟨fun _ _ => trivial, next g2 (r.put hdj undef) x (Keep.refl _) (hkt undef)⟩
      · rw [if_pos g1]
        unfold Oper.wpIn
        refine ⟨fun _ _ => trivial, ?_⟩
        rw [show a.eval = f.ev from r.eval, show (FW ro).round = ro from rfl]
        by_cases hqj : isQ (opAt ops j).op = true
        · rw [if_pos hqj] at g2
          obtain ⟨v, g3, g4⟩ := g2
          cases hp : pinned bf ops j with
          | true =>
            simp only [hp, if_true] at g3
            obtain ⟨nx, w', L', e1, ⟨u, e2, e3, e4⟩, e5, e6⟩ := g3 Fr w x
            subst e3; subst e4
            rw [e1]
            rcases e2 with rfl | ⟨rfl, rfl⟩
            · exact next g4 (r.put hdj _) e5 e6 (hkt _)
            · exact next g4 (r.put hdj _) e5 e6 (hkt _)
          | false =>
            simp only [hp, Bool.false_eq_true, if_false] at g3
            obtain ⟨nx, w', L', e1, ⟨u, e2, e3, e4⟩, e5, e6⟩ := g3 (nrd bf S j ++ (H ++ Fr)) w (by rw [← List.append_assoc]; refine Has.perm ((rd_perm bf S j).append_right (H ++ Fr)) _ ?_; rw [← List.append_assoc]; exact x)
            subst e3; subst e4
            have e5 : Has (al S ++ H ++ Fr) (heapOf w') := by
              rw [← List.append_assoc] at e5
              rw [List.append_assoc]; exact Has.perm ((rd_perm bf S j).symm.append_right (H ++ Fr)) _ e5
            rw [e1]
            rcases e2 with rfl | ⟨rfl, rfl⟩
            · exact next g4 (r.put hdj _) e5 e6 (hkt _)
            · exact next g4 (r.put hdj _) e5 e6 (hkt _)
        · rw [if_neg hqj] at g2
          by_cases haj : isA (opAt ops j).op = true
          · rw [if_pos haj] at g2
            obtain ⟨ob, g3, g4⟩ := g2
            rw [g3 w]
            have e5 : Has (al S ++ (pts w.heap.size ob :: H) ++ Fr) (heapOf (w.alloc ob)) := by
              have h5 : Has (pts w.heap.size ob :: (al S ++ H ++ Fr)) (heapOf (w.alloc ob)) := has_new x (heapOf_fresh w) (heapOf_push w ob)
              refine Has.perm ?_ _ h5
              rw [← List.cons_append]
              exact (List.perm_middle.symm).append_right Fr
            refine next (g4 _ ⟨w.alloc ob, let ⟨_, _, _, s, _, y, _⟩ := has_append.1 e5; y.mono s⟩) (r.put hdj _) (Has.perm ((dSH D ops j S H _).symm.append_right Fr) _ e5) ⟨rfl, rfl, rfl, by show w.heap.size ≤ (w.heap.push ob).size; rw [Array.size_push]; omega⟩ (hkt _)
          · rw [if_neg haj] at g2
            obtain ⟨nx, w', L', e1, e2, e5, e6⟩ := g2 Fr w x
            rw [e1]
            cases nx <;> simp only [upon] at e2 <;> simp only [Oper.uponIn]
            case value v =>
              obtain ⟨A, H', e, k⟩ := e2
              exact next k (r.put hdj _) (by rw [al_tag]; exact e.app Fr _ e5) e6 (hkt _)
            case skip =>
              obtain ⟨A, H', e, k⟩ := e2
              exact next k (r.put hdj _) (by rw [al_tag]; exact e.app Fr _ e5) e6 (hkt _)
            case defer d =>
              obtain ⟨A, H', e, k⟩ := e2
              have r2 : Rep N { a with defers := d :: a.defers } (f.defer d) := ⟨r.size, r.get, by simp [Frm.defer, r.ds]⟩
              exact next k (r2.put hdj undef) (by rw [al_tag]; exact e.app Fr _ e5) e6 ((Kept.putO (f.defer d) _ undef (mO_mOps hjs)).trans (fun _ _ => rfl))
            case enter gg args =>
              refine ⟨fun h => by simp [FW] at h, callsIn_FW (Calls.mono (e2 Fr w' e5) ?_)⟩
              rintro e w'' ⟨v, L'', rfl, ⟨A, H', e, k⟩, hh', hk'⟩
              exact next k (r.put hdj v) (by rw [al_tag]; exact e.app Fr _ hh') (e6.trans hk') (hkt v)
            all_goals exact e2

theorem inv0 (bf : Array Nat) (ops : Array Oper) : Inv bf ops (Array.replicate ops.size false) (List.range ops.size) := by
  refine ⟨by simp, fun i => ?_, fun j i hj hl => ?_, List.pairwise_lt_range⟩
  · rw [List.mem_range]
    constructor
    · intro h; exact ⟨h, by simp [Array.getD_eq_getD_getElem?, h]⟩
    · exact fun h => h.1
  · simp [Array.getD_eq_getD_getElem?, hj] at hl

theorem W.draw {N : Nat} {id : Nat} {Q : Post} {f : Frm} {L H : List HP} (bf : Array Nat) (hm : P.follows .mixedOrders = true) (chk : drawOk bf ops = true) (hN : ops.all (fun o => dOk N o.dst) = true) (e : Ent L (al S ++ H))
    (h : DS P ro D bf ops (fun f L => ∃ M, Ent L M ∧ Q .normal f M) S (List.range ops.size) f H) : W P N ro (.region id ops true) Q f L := by
  intro Fr w a r x
  refine wpIn_region_any hm ?_
  exact explore (fun f L L' e ⟨M, e', q⟩ => ⟨M, e.trans e', q⟩) (fun f L h => h) chk hN _ ops.size _ _ f S H { w with drawn := w.drawn + 1 } a (by simp) (Nat.le_refl _) (inv0 bf ops) h r (e.app Fr _ x) ⟨rfl, rfl, rfl, Nat.le_refl _⟩ (Kept.refl _ _)
/-- A region whose last operation is behind all others, and acts: what stays till then may be turned by it. -/
def lastOk (bf : Array Nat) (ops : Array Oper) (n : Nat) : Bool := Nat.beq ops.size (n + 1) && (List.range n).all fun x => lt bf x n
theorem W.drawT {N : Nat} {id : Nat} {Q : Post} {f : Frm} {L H : List HP} (n : Nat) (bf : Array Nat) (hm : P.follows .mixedOrders = true) (chk : drawOk bf ops = true) (hN : ops.all (fun o => dOk N o.dst) = true) (hl : lastOk bf ops n = true)
    (hq : isQ (opAt ops n).op = false) (ha : isA (opAt ops n).op = false) (hg : (opAt ops n).guard = none) (e : Ent L (al S ++ H))
    (h : DS P ro D bf ops (fun f L => ∃ M, Ent L M ∧ OW P ro (opAt ops n) f (fun f' L' => ∃ M', Ent L' M' ∧ Q .normal f' M') M) S (List.range n) f H) : W P N ro (.region id ops true) Q f L := by
  simp only [lastOk, Bool.and_eq_true, List.all_eq_true, List.mem_range] at hl
  obtain ⟨hs, hl⟩ := hl
  have hs : ops.size = n + 1 := Nat.eq_of_beq_eq_true hs
  intro Fr w a r x
  refine wpIn_region_any hm ?_
  have inv := inv0 bf ops
  rw [hs, List.range_succ, ← hs] at inv
  have hw : ∀ f, wF ops f (opAt ops n) = true := fun f => by unfold wF Region.wanted; rw [hg]
  have h' : DS P ro D bf ops (fun f L => ∃ M, Ent L M ∧ DS P ro D bf ops (fun f L => ∃ M, Ent L M ∧ Q .normal f M) [] [n] f M) S (List.range n) f H := by
    have mono : ∀ (R : List Nat) (S : St) (f : Frm) (H : List HP), DS P ro D bf ops (fun f L => ∃ M, Ent L M ∧ OW P ro (opAt ops n) f (fun f' L' => ∃ M', Ent L' M' ∧ Q .normal f' M') M) S R f H →
        DS P ro D bf ops (fun f L => ∃ M, Ent L M ∧ DS P ro D bf ops (fun f L => ∃ M, Ent L M ∧ Q .normal f M) [] [n] f M) S R f H := by
      intro R
      induction R with
      | nil =>
        rintro S f H ⟨M, eM, q⟩
        refine ⟨M, eM, .inr ⟨hw f, ?_⟩⟩
        rw [if_neg (by rw [hq]; simp), if_neg (by rw [ha]; simp)]
        refine OW.monoW rfl rfl q (fun v L _ => ⟨fun k => ⟨[], L, Ent.refl _, k⟩, fun d k => ⟨[], L, Ent.refl _, k⟩⟩)
      | cons i R ih =>
        intro S f H h
        simp only [DS] at h ⊢
        rcases h with ⟨h1, h2⟩ | ⟨h1, h2⟩
        · exact .inl ⟨h1, ih _ _ _ h2⟩
        · refine .inr ⟨h1, ?_⟩
          by_cases hqi : isQ (opAt ops i).op = true
          · rw [if_pos hqi] at h2 ⊢
            obtain ⟨v, h3, h4⟩ := h2
            exact ⟨v, h3, ih _ _ _ h4⟩
          · rw [if_neg hqi] at h2 ⊢
            by_cases hai : isA (opAt ops i).op = true
            · rw [if_pos hai] at h2 ⊢
              obtain ⟨o, h3, h4⟩ := h2
              exact ⟨o, h3, fun b ne => ih _ _ _ (h4 b ne)⟩
            · rw [if_neg hai] at h2 ⊢
              exact OW.monoW rfl rfl h2 (fun v L _ => ⟨fun ⟨A, H', e', k⟩ => ⟨A, H', e', ih _ _ _ k⟩, fun d ⟨A, H', e', k⟩ => ⟨A, H', e', ih _ _ _ k⟩⟩)
    exact mono _ _ _ _ h
  exact exploreT (tl := [n]) (fun f L L' e ⟨M, e', q⟩ => ⟨M, e.trans e', q⟩) (fun f L h => h) chk hN (fun y hy hyn t ht => by rw [List.mem_singleton.1 ht]; exact hl y (by rw [List.mem_singleton] at hyn; omega)) n ops.size (List.range n) _ f S H { w with drawn := w.drawn + 1 } a (by simp) (by simp; omega) inv h' r (e.app Fr _ x) ⟨rfl, rfl, rfl, Nat.le_refl _⟩ (Kept.refl _ _)
end

/-! ### In two common ways -/
/-- All that tells a value is comparable with all that acts. -/
def drawA (ops : Array Oper) : Bool := drawOk (Region.before ops) ops && (List.range ops.size).all fun i => !isQ (opAt ops i).op || pinned (Region.before ops) ops i
def drawB (ops : Array Oper) : Bool := drawOk (Region.before ops) ops

section
variable (P : Program) (ro : Option Nat) (D : Nat → Bool) (all : Array Oper) (K : Frm → List HP → Prop)
/-- Read from whatever there is; act on whatever there is. -/
def DA : List Oper → Frm → List HP → Prop
  | [], f, H => K f H
  | o :: R, f, H =>
    (wF all f o = false ∧ DA R (f.putO o.dst undef) H) ∨
    (wF all f o = true ∧
      if isQ o.op then ∃ v, SV P ro o f (fun v' L' => v' = v ∧ L' = H) H ∧ DA R (f.putO o.dst v) H
      else if isA o.op then ∃ ob, (∀ w, (o.semAt ro f.ev).run P w = .ok (.value (mkA o.op w.heap.size)) (w.alloc ob)) ∧ ∀ b, DA R (f.putO o.dst (mkA o.op b)) (pts b ob :: H)
      else OW P ro o f (fun f' L' => DA R f' L') H)
/-- Read from what stays; i is the first of the operations. -/
def DB (bf : Array Nat) : Nat → St → List Oper → Frm → List HP → Prop
  | i, S, [], f, H => K f (al S ++ H)
  | i, S, o :: R, f, H =>
    (wF all f o = false ∧ DB bf (i + 1) S R (f.putO o.dst undef) H) ∨
    (wF all f o = true ∧
      if isQ o.op then ∃ v, SV P ro o f (fun v' L' => v' = v ∧ L' = rd bf S i) (rd bf S i) ∧ DB bf (i + 1) S R (f.putO o.dst v) H
      else if isA o.op then ∃ ob, (∀ w, (o.semAt ro f.ev).run P w = .ok (.value (mkA o.op w.heap.size)) (w.alloc ob)) ∧ ∀ b, DB bf (i + 1) (bif isL o.op && D i then S ++ tag i [pts b ob] else S) R (f.putO o.dst (mkA o.op b)) (bif isL o.op && D i then H else pts b ob :: H)
      else OW P ro o f (fun f' L' => ∃ A H', Ent L' (al S ++ A ++ H') ∧ DB bf (i + 1) (S ++ tag i A) R f' H') (al S ++ H))
end

section
variable {P : Program} {ro : Option Nat} {D : Nat → Bool} {ops : Array Oper} {K : Frm → List HP → Prop}
def idx : Nat → Nat → List Nat
  | 0, _ => []
  | n + 1, i => i :: idx n (i + 1)
theorem idx_range (n : Nat) : idx n 0 = List.range n := by
  have key : ∀ n i, idx n i = (List.range n).map (· + i) := by
    intro n
    induction n with
    | zero => intro i; rfl
    | succ n ih =>
      intro i
      rw [idx, ih, List.range_succ_eq_map]
      simp only [List.map_cons, List.map_map, Nat.zero_add]
      congr 1
      apply List.map_congr_left
      intro a _; simp; omega
  simpa using key n 0
theorem opAt_list {i : Nat} {o : Oper} {l : List Oper} (h : ops.toList.drop i = o :: l) : opAt ops i = o ∧ i < ops.size ∧ ops.toList.drop (i + 1) = l := by
  have h1 : ops.toList[i]? = some o := by rw [← List.head?_drop, h]; rfl
  have h2 : i < ops.toList.length := (List.getElem?_eq_some_iff.1 h1).1
  refine ⟨?_, by simpa using h2, ?_⟩
  · rw [Array.getElem?_toList] at h1; simp [opAt, h1]
  · rw [← List.drop_drop, h]; rfl
theorem DA.ds {bf : Array Nat} (hp : ∀ i, i < ops.size → isQ (opAt ops i).op = true → pinned bf ops i = true) : ∀ (l : List Oper) (i : Nat) (f : Frm) (H : List HP), ops.toList.drop i = l → DA P ro ops K l f H → DS P ro (fun _ => false) bf ops K [] (idx l.length i) f H
  | [], i, f, H, _, h => h
  | o :: l, i, f, H, e, h => by
    obtain ⟨e1, e2, e3⟩ := opAt_list e
    have ih := DA.ds hp l (i + 1)
    simp only [List.length_cons, idx, DS, e1]
    simp only [DA] at h
    rcases h with ⟨h1, h2⟩ | ⟨h1, h2⟩
    · exact .inl ⟨h1, ih _ _ e3 h2⟩
    · refine .inr ⟨h1, ?_⟩
      by_cases hq : isQ o.op = true
      · have hpi := hp i e2 (by rw [e1]; exact hq)
        rw [if_pos hq] at h2 ⊢
        obtain ⟨v, h3, h4⟩ := h2
        refine ⟨v, ?_, ih _ _ e3 h4⟩
        simp only [hpi, if_true, al, List.nil_append]; exact h3
      · rw [if_neg hq] at h2 ⊢
        by_cases ha : isA o.op = true
        · rw [if_pos ha] at h2 ⊢
          obtain ⟨ob, h3, h4⟩ := h2
          exact ⟨ob, h3, fun b _ => by simp only [dS, dH, Bool.and_false, cond_false]; exact ih _ _ e3 (h4 b)⟩
        · rw [if_neg ha] at h2 ⊢
          refine OW.monoW rfl rfl h2 (fun v L _ => ⟨fun k => ⟨[], L, Ent.refl _, ih _ _ e3 k⟩, fun d k => ⟨[], L, Ent.refl _, ih _ _ e3 k⟩⟩)
theorem DB.ds {bf : Array Nat} : ∀ (l : List Oper) (i : Nat) (S : St) (f : Frm) (H : List HP), ops.toList.drop i = l → DB P ro D ops K bf i S l f H → DS P ro D bf ops K S (idx l.length i) f H
  | [], i, S, f, H, _, h => h
  | o :: l, i, S, f, H, e, h => by
    obtain ⟨e1, e2, e3⟩ := opAt_list e
    have ih := DB.ds (bf := bf) l (i + 1)
    simp only [List.length_cons, idx, DS, e1]
    simp only [DB] at h
    rcases h with ⟨h1, h2⟩ | ⟨h1, h2⟩
    · exact .inl ⟨h1, ih _ _ _ e3 h2⟩
    · refine .inr ⟨h1, ?_⟩
      by_cases hq : isQ o.op = true
      · rw [if_pos hq] at h2 ⊢
        obtain ⟨v, h3, h4⟩ := h2
        refine ⟨v, ?_, ih _ _ _ e3 h4⟩
        split
        · refine SV.frameQ (M := nrd bf S i ++ H) ?_ ?_ h3
          · intro h x; rw [← List.append_assoc]; exact Has.perm ((rd_perm bf S i).append_right H) _ x
          · intro h x; rw [← List.append_assoc] at x; exact Has.perm ((rd_perm bf S i).symm.append_right H) _ x
        · exact h3
      · rw [if_neg hq] at h2 ⊢
        by_cases ha : isA o.op = true
        · rw [if_pos ha] at h2 ⊢
          obtain ⟨ob, h3, h4⟩ := h2
          exact ⟨ob, h3, fun b _ => by simp only [dS, dH, e1]; exact ih _ _ _ e3 (h4 b)⟩
        · rw [if_neg ha] at h2 ⊢
          refine OW.monoW rfl rfl h2 (fun v L _ => ⟨fun ⟨A, H', e', k⟩ => ⟨A, H', e', ih _ _ _ e3 k⟩, fun d ⟨A, H', e', k⟩ => ⟨A, H', e', ih _ _ _ e3 k⟩⟩)

variable {N : Nat} {id : Nat} {Q : Post} {f : Frm} {L S H : List HP}
theorem W.drawA (hm : P.follows .mixedOrders = true) (chk : drawA ops = true) (hN : ops.all (fun o => dOk N o.dst) = true)
    (h : DA P ro ops (fun f L => Q .normal f L) ops.toList f L) : W P N ro (.region id ops true) Q f L := by
  simp only [SL.drawA, Bool.and_eq_true, List.all_eq_true, List.mem_range] at chk
  refine W.draw (D := fun _ => false) (S := []) (H := L) _ hm chk.1 hN (Ent.refl _) ?_
  have hp : ∀ i, i < ops.size → isQ (opAt ops i).op = true → pinned (Region.before ops) ops i = true := fun i hi hq => by
    have := chk.2 i hi
    simpa [hq] using this
  have h' : DA P ro ops (fun f L => ∃ M, Ent L M ∧ Q .normal f M) ops.toList f L := by
    have mono : ∀ (l : List Oper) (f : Frm) (H : List HP), DA P ro ops (fun f L => Q .normal f L) l f H → DA P ro ops (fun f L => ∃ M, Ent L M ∧ Q .normal f M) l f H := by
      intro l
      induction l with
      | nil => intro f H h; exact ⟨H, Ent.refl _, h⟩
      | cons o l ih =>
        intro f H h
        simp only [DA] at h ⊢
        rcases h with ⟨h1, h2⟩ | ⟨h1, h2⟩
        · exact .inl ⟨h1, ih _ _ h2⟩
        · refine .inr ⟨h1, ?_⟩
          split
          · rename_i hq; rw [if_pos hq] at h2; obtain ⟨v, h3, h4⟩ := h2; exact ⟨v, h3, ih _ _ h4⟩
          · rename_i hq; rw [if_neg hq] at h2
            split
            · rename_i ha; rw [if_pos ha] at h2; obtain ⟨ob, h3, h4⟩ := h2; exact ⟨ob, h3, fun b => ih _ _ (h4 b)⟩
            · rename_i ha; rw [if_neg ha] at h2
              exact OW.monoW rfl rfl h2 (fun v L _ => ⟨fun k => ih _ _ k, fun d k => ih _ _ k⟩)
    exact mono _ _ _ h
  have := DA.ds hp ops.toList 0 f L rfl h'
  rw [idx_range, Array.length_toList] at this
  exact this
theorem W.drawB (bf : Array Nat) (S H : List HP) (hm : P.follows .mixedOrders = true) (hb : Region.before ops = bf) (chk : drawOk bf ops = true) (hN : ops.all (fun o => dOk N o.dst) = true) (e : Ent L (S ++ H))
    (h : DB P ro (fun _ => true) ops (fun f L => ∃ M, Ent L M ∧ Q .normal f M) bf 0 (base S) ops.toList f H) : W P N ro (.region id ops true) Q f L := by
  subst hb
  refine W.draw (D := fun _ => true) (S := base S) (H := H) _ hm chk hN (by rw [al_base]; exact e) ?_
  have := DB.ds ops.toList 0 (base S) f H rfl h
  rw [idx_range, Array.length_toList] at this
  exact this

/-- The same; D: which rows built at once stay. -/
theorem W.drawG (D : Nat → Bool) (bf : Array Nat) (S H : List HP) (hm : P.follows .mixedOrders = true) (hb : Region.before ops = bf) (chk : drawOk bf ops = true) (hN : ops.all (fun o => dOk N o.dst) = true) (e : Ent L (S ++ H))
    (h : DB P ro D ops (fun f L => ∃ M, Ent L M ∧ Q .normal f M) bf 0 (base S) ops.toList f H) : W P N ro (.region id ops true) Q f L := by
  subst hb
  refine W.draw (D := D) (S := base S) (H := H) _ hm chk hN (by rw [al_base]; exact e) ?_
  have := DB.ds ops.toList 0 (base S) f H rfl h
  rw [idx_range, Array.length_toList] at this
  exact this

theorem DB.dsT {n : Nat} {D : Nat → Bool} {bf : Array Nat} {K' K : Frm → List HP → Prop} (hk : ∀ f L, K' f L → K f L) : ∀ (l : List Oper) (i : Nat) (S : St) (f : Frm) (H : List HP), (ops.toList.take n).drop i = l → DB P ro D ops K' bf i S l f H →
      DS P ro D bf ops K S (idx l.length i) f H := by
  intro l
  induction l with
  | nil => intro i S f H _ h; exact hk _ _ h
  | cons o l ih =>
    intro i S f H e h
    have h1 : (ops.toList.take n)[i]? = some o := by rw [← List.head?_drop, e]; rfl
    have h2 : i < (ops.toList.take n).length := (List.getElem?_eq_some_iff.1 h1).1
    have e2 : i < ops.size := by rw [List.length_take] at h2; simp at h2; omega
    have e1 : opAt ops i = o := by
      rw [List.getElem?_take] at h1
      split at h1
      · rw [Array.getElem?_toList] at h1; simp [opAt, h1]
      · cases h1
    have e3 : (ops.toList.take n).drop (i + 1) = l := by rw [← List.drop_drop, e]; rfl
    simp only [List.length_cons, idx, DS, e1]
    simp only [DB] at h
    rcases h with ⟨h1, h2⟩ | ⟨h1, h2⟩
    · exact .inl ⟨h1, ih _ _ _ _ e3 h2⟩
    · refine .inr ⟨h1, ?_⟩
      by_cases hq : isQ o.op = true
      · rw [if_pos hq] at h2 ⊢
        obtain ⟨v, h3, h4⟩ := h2
        refine ⟨v, ?_, ih _ _ _ _ e3 h4⟩
        split
        · refine SV.frameQ (M := nrd (bf) S i ++ H) ?_ ?_ h3
          · intro h x; rw [← List.append_assoc]; exact Has.perm ((rd_perm _ S i).append_right H) _ x
          · intro h x; rw [← List.append_assoc] at x; exact Has.perm ((rd_perm _ S i).symm.append_right H) _ x
        · exact h3
      · rw [if_neg hq] at h2 ⊢
        by_cases ha : isA o.op = true
        · rw [if_pos ha] at h2 ⊢
          obtain ⟨ob, h3, h4⟩ := h2
          exact ⟨ob, h3, fun b _ => by simp only [dS, dH, e1]; exact ih _ _ _ _ e3 (h4 b)⟩
        · rw [if_neg ha] at h2 ⊢
          refine OW.monoW rfl rfl h2 (fun v L _ => ⟨fun ⟨A, H', e', k⟩ => ⟨A, H', e', ih _ _ _ _ e3 k⟩, fun d ⟨A, H', e', k⟩ => ⟨A, H', e', ih _ _ _ _ e3 k⟩⟩)
/-- Read from what stays; the last operation, which is behind all others, may turn it. -/
theorem W.drawC (n : Nat) (bf : Array Nat) (S H : List HP) (hm : P.follows .mixedOrders = true) (hb : Region.before ops = bf) (chk : drawOk bf ops = true) (hN : ops.all (fun o => dOk N o.dst) = true) (hl : lastOk bf ops n = true)
    (hq : isQ (opAt ops n).op = false) (ha : isA (opAt ops n).op = false) (hg : (opAt ops n).guard = none) (e : Ent L (S ++ H))
    (h : DB P ro (fun _ => true) ops (fun f L => ∃ M, Ent L M ∧ OW P ro (opAt ops n) f (fun f' L' => ∃ M', Ent L' M' ∧ Q .normal f' M') M) bf 0 (base S) (ops.toList.take n) f H) : W P N ro (.region id ops true) Q f L := by
  subst hb
  have hs : ops.size = n + 1 := by
    simp only [lastOk, Bool.and_eq_true] at hl
    exact Nat.eq_of_beq_eq_true hl.1
  refine W.drawT (D := fun _ => true) (S := base S) (H := H) n _ hm chk hN hl hq ha hg (by rw [al_base]; exact e) ?_
  have := DB.dsT (n := n) (K' := fun f L => ∃ M, Ent L M ∧ OW P ro (opAt ops n) f (fun f' L' => ∃ M', Ent L' M' ∧ Q .normal f' M') M) (fun _ _ h => h) (ops.toList.take n) 0 (base S) f H rfl h
  rw [List.length_take, Array.length_toList, hs, show min n (n + 1) = n by omega] at this
  rw [← idx_range]; exact this

/-- All operations from n on are behind all those ahead of n: what stays till then may be turned by them. -/
def tailOk (bf : Array Nat) (ops : Array Oper) (n : Nat) : Bool := Nat.ble n ops.size && (List.range n).all fun x => (idx (ops.size - n) n).all fun t => lt bf x t
theorem idx_map : ∀ n i, idx n i = (List.range n).map (i + ·) := by
  intro n
  induction n with
  | zero => intro i; rfl
  | succ n ih =>
    intro i
    rw [idx, ih, List.range_succ_eq_map, List.map_cons, List.map_map]
    congr 1
    apply List.map_congr_left
    intro x _
    simp only [Function.comp]
    omega
theorem W.drawU (n : Nat) (bf : Array Nat) (S H : List HP) (hm : P.follows .mixedOrders = true) (hb : Region.before ops = bf) (chk : drawOk bf ops = true) (hN : ops.all (fun o => dOk N o.dst) = true) (hl : tailOk bf ops n = true) (e : Ent L (S ++ H))
    (h : DB P ro (fun _ => true) ops (fun f L => ∃ M, Ent L M ∧ DB P ro (fun _ => true) ops (fun f L => ∃ M, Ent L M ∧ Q .normal f M) bf n [] (ops.toList.drop n) f M) bf 0 (base S) (ops.toList.take n) f H) : W P N ro (.region id ops true) Q f L := by
  subst hb
  simp only [tailOk, Bool.and_eq_true, List.all_eq_true, List.mem_range] at hl
  obtain ⟨hs, hl⟩ := hl
  have hs : n ≤ ops.size := Nat.le_of_ble_eq_true hs
  have hK : ∀ f L, (∃ M, Ent L M ∧ DB P ro (fun _ => true) ops (fun f L => ∃ M, Ent L M ∧ Q .normal f M) (Region.before ops) n [] (ops.toList.drop n) f M) → ∃ M, Ent L M ∧ DS P ro (fun _ => true) (Region.before ops) ops (fun f L => ∃ M, Ent L M ∧ Q .normal f M) [] (idx (ops.size - n) n) f M := by
    rintro f L ⟨M, eM, hM⟩
    have := DB.ds (ops.toList.drop n) n [] f M rfl hM
    rw [List.length_drop, Array.length_toList] at this
    exact ⟨M, eM, this⟩
  have h' := DB.dsT (n := n) hK (ops.toList.take n) 0 (base S) f H rfl h
  rw [List.length_take, Array.length_toList, Nat.min_eq_left hs, idx_range] at h'
  intro Fr w a r x
  refine wpIn_region_any hm ?_
  have inv := inv0 (Region.before ops) ops
  have hrg : List.range ops.size = List.range n ++ idx (ops.size - n) n := by
    rw [idx_map, ← List.range_add]
    congr 1; omega
  rw [hrg] at inv
  exact exploreT (tl := idx (ops.size - n) n) (fun f L L' e ⟨M, e', q⟩ => ⟨M, e.trans e', q⟩) (fun f L h => h) chk hN (fun y hy hyn t ht => by
      refine hl y ?_ t ht
      rcases Nat.lt_or_ge y n with q | q
      · exact q
      · exact absurd (by rw [idx_map]; exact List.mem_map.2 ⟨y - n, List.mem_range.2 (by omega), by omega⟩) hyn) n ops.size (List.range n) _ f (base S) H { w with drawn := w.drawn + 1 } a (by simp) (by rw [idx_map]; simp; omega) inv h' r (by rw [al_base]; exact e.app Fr _ x) ⟨rfl, rfl, rfl, Nat.le_refl _⟩ (Kept.refl _ _)

/-- A list of items, written out. -/
theorem hnil {l : List HP} (h : l = []) : l = [] := h
theorem hcons {l t t' : List HP} {a : HP} (h : l = a :: t) (ht : t = t') : l = a :: t' := by rw [h, ht]
theorem hl0 {l l' : List HP} (h : l = l' := by exact hnil rfl) : l = l' := h
theorem hl1 {l l' : List HP} (h : l = l' := by first | exact hnil rfl | exact hcons rfl hl0 | rfl) : l = l' := h
theorem hl2 {l l' : List HP} (h : l = l' := by first | exact hnil rfl | exact hcons rfl hl1 | rfl) : l = l' := h
theorem hl3 {l l' : List HP} (h : l = l' := by first | exact hnil rfl | exact hcons rfl hl2 | rfl) : l = l' := h
theorem hl4 {l l' : List HP} (h : l = l' := by first | exact hnil rfl | exact hcons rfl hl3 | rfl) : l = l' := h
theorem hl5 {l l' : List HP} (h : l = l' := by first | exact hnil rfl | exact hcons rfl hl4 | rfl) : l = l' := h
theorem hl6 {l l' : List HP} (h : l = l' := by first | exact hnil rfl | exact hcons rfl hl5 | rfl) : l = l' := h
theorem hl7 {l l' : List HP} (h : l = l' := by first | exact hnil rfl | exact hcons rfl hl6 | rfl) : l = l' := h
theorem hl8 {l l' : List HP} (h : l = l' := by first | exact hnil rfl | exact hcons rfl hl7 | rfl) : l = l' := h
theorem hl9 {l l' : List HP} (h : l = l' := by first | exact hnil rfl | exact hcons rfl hl8 | rfl) : l = l' := h
theorem hl10 {l l' : List HP} (h : l = l' := by first | exact hnil rfl | exact hcons rfl hl9 | rfl) : l = l' := h
theorem hl11 {l l' : List HP} (h : l = l' := by first | exact hnil rfl | exact hcons rfl hl10 | rfl) : l = l' := h
theorem hl12 {l l' : List HP} (h : l = l' := by first | exact hnil rfl | exact hcons rfl hl11 | rfl) : l = l' := h
theorem hl13 {l l' : List HP} (h : l = l' := by first | exact hnil rfl | exact hcons rfl hl12 | rfl) : l = l' := h
theorem hl14 {l l' : List HP} (h : l = l' := by first | exact hnil rfl | exact hcons rfl hl13 | rfl) : l = l' := h
theorem hl15 {l l' : List HP} (h : l = l' := by first | exact hnil rfl | exact hcons rfl hl14 | rfl) : l = l' := h
theorem hl16 {l l' : List HP} (h : l = l' := by first | exact hnil rfl | exact hcons rfl hl15 | rfl) : l = l' := h
theorem hl17 {l l' : List HP} (h : l = l' := by first | exact hnil rfl | exact hcons rfl hl16 | rfl) : l = l' := h
theorem hl18 {l l' : List HP} (h : l = l' := by first | exact hnil rfl | exact hcons rfl hl17 | rfl) : l = l' := h
theorem hl19 {l l' : List HP} (h : l = l' := by first | exact hnil rfl | exact hcons rfl hl18 | rfl) : l = l' := h
theorem hl20 {l l' : List HP} (h : l = l' := by first | exact hnil rfl | exact hcons rfl hl19 | rfl) : l = l' := h
theorem hl21 {l l' : List HP} (h : l = l' := by first | exact hnil rfl | exact hcons rfl hl20 | rfl) : l = l' := h
theorem hl22 {l l' : List HP} (h : l = l' := by first | exact hnil rfl | exact hcons rfl hl21 | rfl) : l = l' := h
theorem hl23 {l l' : List HP} (h : l = l' := by first | exact hnil rfl | exact hcons rfl hl22 | rfl) : l = l' := h
theorem hl {l l' : List HP} (h : l = l' := by first | exact hnil rfl | exact hcons rfl hl23 | rfl) : l = l' := h
/-! the steps -/
variable {all : Array Oper} {R : List Oper} {d : Option Nat} {op : Op} {ty : TypeId} {ps : String} {af : Array Edge} {gu : Option (Nat × Bool)} {v : Value}
theorem DA.nil (h : K f H) : DA P ro all K [] f H := h
theorem DA.off (hw : wF all f ⟨d, op, ty, ps, af, gu⟩ = false) (k : DA P ro all K R (f.putO d undef) H) : DA P ro all K (⟨d, op, ty, ps, af, gu⟩ :: R) f H := .inl ⟨hw, k⟩
theorem DA.q (hq : isQ op = true) (hw : wF all f ⟨d, op, ty, ps, af, gu⟩ = true) (h : SV P ro ⟨d, op, ty, ps, af, gu⟩ f (fun v' L' => v' = v ∧ L' = H) H) (k : DA P ro all K R (f.putO d v) H) : DA P ro all K (⟨d, op, ty, ps, af, gu⟩ :: R) f H := by
  refine .inr ⟨hw, ?_⟩
  rw [if_pos hq]; exact ⟨v, h, k⟩
theorem DA.e (hq : isQ op = false) (ha : isA op = false) (hw : wF all f ⟨d, op, ty, ps, af, gu⟩ = true) (h : OW P ro ⟨d, op, ty, ps, af, gu⟩ f (fun f' L' => DA P ro all K R f' L') H) : DA P ro all K (⟨d, op, ty, ps, af, gu⟩ :: R) f H := by
  refine .inr ⟨hw, ?_⟩
  rw [if_neg (by rw [hq]; simp), if_neg (by rw [ha]; simp)]; exact h
theorem run_alloc {t : TypeId} {z : Value} (hz : tyZero P t = some z) (w : World) : ((⟨d, .alloc t, ty, ps, af, gu⟩ : Oper).semAt ro f.ev).run P w = .ok (.value (.pointer (some ⟨w.heap.size, 0, none⟩))) (w.alloc (.cells z.cells t)) := by
  rw [Oper.semAt_eq _ _ _ (by intro c h; cases h)]
  have h1 : (zeroValue t).run P w = .ok z w := by
    unfold tyZero at hz
    cases hi : P.info? t with
    | none => simp [hi] at hz
    | some i => simp [hi] at hz; simp [zeroValue, typeInfo, Go.program, Sem.run, hi, hz]
  simp only [execOp, Instr.alloc]
  simp only [Sem.run_bind, h1, Result.andThen_ok, newVar, newRow, newObj]
  rfl
theorem run_box {t : TypeId} {x : Operand} (w : World) : ((⟨d, .box t x, ty, ps, af, gu⟩ : Oper).semAt ro f.ev).run P w = .ok (.value (.pointer (some ⟨w.heap.size, 0, none⟩))) (w.alloc (.cells (f.ev x).cells t)) := by
  rw [Oper.semAt_eq _ _ _ (by intro c h; cases h)]
  simp only [execOp, Instr.box]
  simp only [Sem.run_bind, Result.andThen_ok, newVar, newRow, newObj]
  rfl
theorem DA.alloc {t : TypeId} {z : List Value} [hz : TZ P t z] (hw : wF all f ⟨d, .alloc t, ty, ps, af, gu⟩ = true) (k : ∀ b, DA P ro all K R (f.putO d (.pointer (some ⟨b, 0, none⟩))) (pts b (.cells z.toArray t) :: H)) :
    DA P ro all K (⟨d, .alloc t, ty, ps, af, gu⟩ :: R) f H := by
  obtain ⟨v, h1, h2⟩ := hz.ex
  refine .inr ⟨hw, ?_⟩
  rw [if_neg (by simp [isQ]), if_pos (by simp [isA])]; rw [← h2] at k; exact ⟨_, run_alloc h1, k⟩
theorem DA.box {t : TypeId} {x : Operand} {v : Value} {cs : List Value} (hx : f.ev x = v) (hc : Cel v cs) (hw : wF all f ⟨d, .box t x, ty, ps, af, gu⟩ = true) (k : ∀ b, DA P ro all K R (f.putO d (.pointer (some ⟨b, 0, none⟩))) (pts b (.cells cs.toArray t) :: H)) :
    DA P ro all K (⟨d, .box t x, ty, ps, af, gu⟩ :: R) f H := by
  subst hx
  refine .inr ⟨hw, ?_⟩
  rw [if_neg (by simp [isQ]), if_pos (by simp [isA])]; rw [← hc] at k; exact ⟨_, run_box, k⟩
section
variable {D : Nat → Bool} {bf : Array Nat} {i : Nat} {S : St}
theorem DB.nil {A : List HP} (ha : al S = A) (h : K f (A ++ H)) : DB P ro D all K bf i S [] f H := by subst ha; exact h
theorem DB.off (hw : wF all f ⟨d, op, ty, ps, af, gu⟩ = false) (k : DB P ro D all K bf (i + 1) S R (f.putO d undef) H) : DB P ro D all K bf i S (⟨d, op, ty, ps, af, gu⟩ :: R) f H := .inl ⟨hw, k⟩
theorem DB.q {A : List HP} (hq : isQ op = true) (hw : wF all f ⟨d, op, ty, ps, af, gu⟩ = true) (hA : rd bf S i = A) (h : SV P ro ⟨d, op, ty, ps, af, gu⟩ f (fun v' L' => v' = v ∧ L' = A) A) (k : DB P ro D all K bf (i + 1) S R (f.putO d v) H) : DB P ro D all K bf i S (⟨d, op, ty, ps, af, gu⟩ :: R) f H := by
  subst hA
  refine .inr ⟨hw, ?_⟩
  rw [if_pos hq]; exact ⟨v, h, k⟩
theorem DB.e {M A : List HP} (hq : isQ op = false) (ha : isA op = false) (hw : wF all f ⟨d, op, ty, ps, af, gu⟩ = true) (hA : al S = A) (e : Ent (A ++ H) M) (h : OW P ro ⟨d, op, ty, ps, af, gu⟩ f (fun f' L' => ∃ B H', Ent L' (A ++ B ++ H') ∧ DB P ro D all K bf (i + 1) (S ++ tag i B) R f' H') M) : DB P ro D all K bf i S (⟨d, op, ty, ps, af, gu⟩ :: R) f H := by
  subst hA
  refine .inr ⟨hw, ?_⟩
  rw [if_neg (by rw [hq]; simp), if_neg (by rw [ha]; simp)]; exact SW.ent e h
theorem DB.alloc {t : TypeId} {z : List Value} [hz : TZ P t z] (hw : wF all f ⟨d, .alloc t, ty, ps, af, gu⟩ = true) (k : ∀ b, DB P ro D all K bf (i + 1) S R (f.putO d (.pointer (some ⟨b, 0, none⟩))) (pts b (.cells z.toArray t) :: H)) :
    DB P ro D all K bf i S (⟨d, .alloc t, ty, ps, af, gu⟩ :: R) f H := by
  obtain ⟨v, h1, h2⟩ := hz.ex
  refine .inr ⟨hw, ?_⟩
  rw [if_neg (by simp [isQ]), if_pos (by simp [isA])]; rw [← h2] at k; exact ⟨_, run_alloc h1, k⟩
theorem DB.box {t : TypeId} {x : Operand} {v : Value} {cs : List Value} (hx : f.ev x = v) (hc : Cel v cs) (hw : wF all f ⟨d, .box t x, ty, ps, af, gu⟩ = true) (k : ∀ b, DB P ro D all K bf (i + 1) S R (f.putO d (.pointer (some ⟨b, 0, none⟩))) (pts b (.cells cs.toArray t) :: H)) :
    DB P ro D all K bf i S (⟨d, .box t x, ty, ps, af, gu⟩ :: R) f H := by
  subst hx
  refine .inr ⟨hw, ?_⟩
  rw [if_neg (by simp [isQ]), if_pos (by simp [isA])]; rw [← hc] at k; exact ⟨_, run_box, k⟩
end
end
end Go.SL
