/- Layer 32 (script): the line of an act, walked. -/
import Derived.Test.YthdfbmdfmfndhaaDoorSlS
import Derived.Test.YthdfbmdfmfndhaaDoorSlT
import Derived.Test.YthdfbmdfmfndhaaDoorZ1
namespace Go.SL
open Go.Proofs
set_option linter.unusedVariables false
set_option linter.unusedSimpArgs false
set_option linter.unusedSectionVars false
set_option maxRecDepth 10000
set_option maxHeartbeats 4000000
attribute [local irreducible] W WO SV OW SW Tri Ent Tk Has Src SrcK DA DB DP RdS Own OwnT MapH

theorem jn_le (m : Nat) : ∀ (l : List BL), (∀ w ∈ l, w.length ≤ m) → (jn l).length ≤ l.length * (m + 1)
  | [], _ => by simp [jn]
  | [w], h => by have := h w List.mem_cons_self; simp [jn]; omega
  | w :: v :: r, h => by
    have h1 := h w List.mem_cons_self
    have h2 := jn_le m (v :: r) (fun x hx => h x (List.mem_cons_of_mem _ hx))
    rw [jn_cons (List.cons_ne_nil _ _), List.length_append, List.length_cons]
    have h3 : (w :: v :: r).length = (v :: r).length + 1 := rfl
    rw [h3, Nat.succ_mul]
    omega
theorem verb_len : ∀ w ∈ verbL, w.length ≤ 6 := by decide
theorem Ac.ws_len {A : Ac} (h : A.right) : A.text.length ≤ 100000 := by
  obtain ⟨h1, h2, h3, h4, h5⟩ := h
  have hp := pidx_ok A.k
  have hn := ntx_le A.k
  have h6 : A.ws.length ≤ 107 := by
    unfold Ac.ws
    rw [List.length_cons, List.length_append, List.length_append, nw_len, tw_len]
    split
    · rename_i z
      rw [kw_len]
      have := (h5 z).1
      omega
    · simp; omega
  have h7 : ∀ w ∈ A.ws, w.length ≤ 401 := by
    intro w hw
    unfold Ac.ws at hw
    rcases List.mem_cons.1 hw with e | hw
    · have : w ∈ verbL := by
        rw [e, List.getD_eq_getElem?_getD, List.getElem?_eq_getElem (show A.k.toNat < verbL.length by show _ < 13; omega)]
        exact List.getElem_mem _
      have := verb_len w this
      omega
    · rcases List.mem_append.1 hw with hw | hw
      · obtain ⟨j, hj, rfl⟩ := List.mem_map.1 hw
        have q := h3 j hj
        unfold okN at q
        have := dg_len (n := (A.ns.getD j 0).toNat) (by omega)
        omega
      · rcases List.mem_append.1 hw with hw | hw
        · obtain ⟨j, hj, rfl⟩ := List.mem_map.1 hw
          have q := h4 j (List.mem_range.1 hj)
          have := hexT_len (A.ts.getD j [])
          omega
        · split at hw
          · rename_i z
            obtain ⟨n, hn', rfl⟩ := List.mem_map.1 hw
            have q := (h5 z).2 n hn'
            unfold okN at q
            have := dg_len (n := n.toNat) (by omega)
            omega
          · cases hw
  have h8 := jn_le 401 A.ws h7
  unfold Ac.text
  have h9 : A.ws.length * (401 + 1) ≤ 107 * 402 := Nat.mul_le_mul_right _ h6
  omega
theorem nw_step (ns : List Int) (l : List Nat) (i : Nat) (h : i < l.length) : Ac.nw ns (l.take (i + 1)) = Ac.nw ns (l.take i) ++ [dg (ns.getD l[i] 0).toNat] := by
  unfold Ac.nw
  rw [List.take_add_one, List.getElem?_eq_getElem h, Option.toList_some, List.map_append]; rfl
theorem tw_step (ts : List BL) (i : Nat) : Ac.tw ts (i + 1) = Ac.tw ts i ++ [hexT (ts.getD i [])] := by
  unfold Ac.tw
  rw [List.range_succ, List.map_append]; rfl
theorem kw_step (ks : List Int) (i : Nat) (h : i < ks.length) : Ac.kw (ks.take (i + 1)) = Ac.kw (ks.take i) ++ [dg (ks.getD i 0).toNat] := by
  unfold Ac.kw
  rw [List.take_add_one, List.getElem?_eq_getElem h, Option.toList_some, List.map_append, List.getD_eq_getElem?_getD, List.getElem?_eq_getElem h]; rfl
theorem sc_Text (A : Ac) (ka : Option Addr) (kc : Nat) (L : List HP) (hk : A.ks.length ≤ 1000000) (ht : ∀ j, (A.ts.getD j []).length ≤ 1000000000) (r : RdS 1 ka A.ks.length (zv A.ks) L) :
    TriE Tryd.prog 8 #[acV A ka kc] (fun v M => (∃ s, v = strV s ∧ (A.right → s = A.text) ∧ (¬A.right → s = [])) ∧ M = L) L := by
  have hri := A.right_clean
  have hba := A.clean_bare
  have hws := A.ws_clean
  have hCk : A.clean.k = A.k := rfl
  refine Tri.of (N := 64) (args := [acV A ka kc]) Tryd.func8 rfl rfl rfl ?_
  have hcle := sc_Clean A ka kc
  have hrgt := sc_Right A ka kc
  unfold acV at hcle hrgt ⊢
  have hlen : A.right → (jn A.clean.ws).length ≤ 100000 := fun z => by rw [hws]; exact Ac.ws_len z
  have hte : A.text = jn A.clean.ws := by rw [hws]; rfl
  refine go ?_
  intro b1
  refine go ?_
  refine WO.callE (vs := [.agg (acL A.k A.ns A.ts (.slice ka A.ks.length kc)).toArray]) Tryd.func10 rfl rfl rfl rfl (hrgt _ hk ht r.cons) ?_
  rintro v M ⟨⟨t, rfl, htr⟩, rfl⟩
  cases t with
  | false =>
    refine go ?_
    exact ⟨rfl, [_], ⟨Res.tmp rfl, trivial⟩, L, ent, ⟨[], rfl, fun z => absurd (htr.2 z) (by simp), fun _ => rfl⟩, rfl⟩
  | true =>
  have hR := htr.1 rfl
  have hRc := hri.2 hR
  have hlen' := hlen hR
  have hks : A.clean.ks.length ≤ 100 := by
    by_cases z : A.clean.k = 12
    · exact (hRc.2.2.2.2 z).1
    · rw [hba.2.2.2 z]; simp
  generalize A.clean = C at *
  obtain ⟨k, ns, ts, ks⟩ := C
  dsimp only at *
  obtain ⟨g1, g2, g3, g4, g5⟩ := hRc
  dsimp only at g1 g2 g3 g4 g5
  refine go ?_
  refine WO.callE (vs := [.agg (acL A.k A.ns A.ts (.slice ka A.ks.length kc)).toArray]) Tryd.func9 rfl rfl rfl rfl (hcle _ hk r.cons) ?_
  rintro v M ⟨a, c, rfl, sa, rfl⟩
  refine go ?_
  refine W.ent (show Ent _ (pts b1 (.cells (acL k ns ts (.slice a ks.length c)).toArray 24) :: OK2 a c ks :: L) from ent) ?_
  have xv : (verbL.map strV)[k.toNat]? = some (strV (verbL.getD k.toNat [])) := by
    rw [List.getElem?_map, List.getD_eq_getElem?_getD, List.getElem?_eq_getElem (show k.toNat < verbL.length by show _ < 13; omega)]; rfl
  refine W.drawB #[0, 0, 2, 7, 15, 31, 63] [pts b1 (.cells (acL k ns ts (.slice a ks.length c)).toArray 24)] (OK2 a c ks :: L) rfl (by kernel_rfl) (by kernel_rfl) (by kernel_rfl) ent ?_
  refine go ?_
  refine DB.callE (vs := []) Tryd.func25 rfl rfl rfl rfl hl hl (sc_verbs _) ?_
  rintro v M ⟨vb, rfl, rfl⟩
  refine ⟨[OZ (some ⟨vb, 0, none⟩) 13 verbL], OK2 a c ks :: L, ent, ?_⟩
  refine go ?_
  refine DB.q (v := strV (verbL.getD k.toNat [])) rfl rfl hl (SV.loadR k.toNat rfl (show RdS 1 (some ⟨vb, 0, none⟩) 13 (verbL.map strV) [pts b1 (.cells (acL k ns ts (.slice a ks.length c)).toArray 24), OZ (some ⟨vb, 0, none⟩) 13 verbL] from by unfold OZ; exact RdS.ownS (Tk.there Tk.here) (fun _ => ⟨vb, rfl⟩) rfl) (by omega) xv eqq) ?_
  generalize hv0 : verbL.getD k.toNat [] = v0 at *
  refine go ?_
  refine DB.lit rfl rfl rfl parts rfl nl rfl rfl ?_
  intro lb
  refine go ?_
  refine ⟨OZ (some ⟨lb, 0, none⟩) 1 [v0] :: pts b1 (.cells (acL k ns ts (.slice a ks.length c)).toArray 24) :: OK2 a c ks :: L, by unfold OZ; exact Own.ofPts rfl ent, ?_⟩
  refine go ?_
  refine WO.callE (vs := [.pointer (some ⟨b1, 0, none⟩)]) Tryd.func26 rfl rfl rfl rfl (sc_parts b1 k ns ts _ _ inferInstance) ?_
  rintro v M ⟨fa, fc, rfl, sfa, rfl⟩
  have hp := pidx_ok k
  have hn2 := ntx_le k
  refine go ?_
  refine W.loopS 34351349800 rfl (fun q : Nat × Option Addr × Nat => [(3, .slice q.2.1 (q.1 + 1) q.2.2), (23, .int .i64 (q.1 : Int))]) (fun q => OZ q.2.1 q.2.2 (v0 :: Ac.nw ns ((pidx k).take q.1)) :: OP fa fc b1 (pidx k) :: pts b1 (.cells (acL k ns ts (.slice a ks.length c)).toArray 24) :: OK2 a c ks :: L)
    (fun q => q.1 ≤ (pidx k).length ∧ ∃ b, q.2.1 = some ⟨b, 0, none⟩) (fun q => (pidx k).length - q.1) (0, some ⟨lb, 0, none⟩, 1) ⟨rfl, rfl, trivial⟩ ⟨Nat.zero_le _, lb, rfl⟩ (Ent.app ent) ?_
  rintro ⟨i, la, lc⟩ bg ⟨hi, ⟨lb2, rfl⟩⟩
  dsimp only at hi ⊢
  have hnl := Ac.nw_len ns ((pidx k).take i)
  rw [List.length_take, Nat.min_eq_left hi] at hnl
  by_cases h1 : i < (pidx k).length
  · have hj := hp.2.1 _ (List.getElem_mem h1)
    have p1 := ptV_get b1 1 (pidx k) i h1
    have hst := nw_step ns (pidx k) i h1
    have hok := g3 _ (List.getElem_mem h1)
    have rdf : ∀ Y X, RdS 1 fa (pidx k).length (ptV b1 1 (pidx k)) (Y :: OP fa fc b1 (pidx k) :: X) := fun Y X => by unfold OP; exact RdS.ownS (Tk.there Tk.here) sfa (by simp [ptV])
    obtain ⟨fb, rfl⟩ := sfa (by omega)
    generalize (pidx k)[i] = j at *
    have hget := acL_get k ns ts (.slice a ks.length c) hj
    unfold okN at hok
    generalize hU : v0 :: Ac.nw ns ((pidx k).take i) = U at *
    have hUl : U.length = i + 1 := by rw [← hU, List.length_cons, hnl]
    refine go ?_
    refine WO.sv rfl ?_
    refine SV.loadR (v := .pointer (some ⟨b1, 1 + j, none⟩)) i rfl (rdf _ _) (by omega) p1 ?_
    refine go ?_
    refine WO.sv rfl ?_
    refine SV.loadR (v := .int .i64 (ns.getD j 0)) (1 + j) rfl (RdS.all (sz := 1) (n := 9) rfl).cons.cons (by omega) hget ?_
    generalize hm0 : ns.getD j 0 = m0 at *
    obtain ⟨m1, rfl⟩ : ∃ m : Nat, m0 = m := ⟨m0.toNat, by omega⟩
    refine WO.callE (vs := [.int .i64 m1]) Tryd.func27 rfl rfl rfl rfl (sc_digits m1 _ (by omega)) ?_
    rintro v M ⟨rfl, rfl⟩
    refine go ?_
    refine WO.sv rfl ?_
    refine SV.lit rfl rfl rfl parts rfl nl ?_
    intro b3
    unfold OZ
    rw [hUl]
    refine WO.sv rfl ?_
    refine SV.append rfl rfl rfl (Tk.there Tk.here) (RdS.src (RdS.all (sz := 1) (n := 1) rfl)) rfl rfl (by omega) rfl ?_
    intro a' c' ha'
    refine go ?_
    refine ⟨(i + 1, a', c'), ⟨rfl, rfl, trivial⟩, rfl, ⟨h1, ha' (by omega)⟩, by dsimp only; omega, ?_⟩
    dsimp only
    have e1 : v0 :: Ac.nw ns ((pidx k).take (i + 1)) = U ++ [dg m1] := by rw [hst, ← hU]; simp
    have e2 : (U ++ [dg m1]).length = i + 1 + 1 := by rw [List.length_append, hUl]; rfl
    rw [e1, e2, List.map_append]
    exact Ent.app ent
  obtain rfl : i = (pidx k).length := by omega
  rw [List.take_length] at hnl ⊢
  refine go ?_
  refine WO.callE (vs := [.pointer (some ⟨b1, 0, none⟩)]) Tryd.func28 rfl rfl rfl rfl (sc_texts b1 k ns ts (.slice a ks.length c) _ inferInstance) ?_
  rintro v M ⟨ta, tc, rfl, sta, rfl⟩
  generalize hV : v0 :: Ac.nw ns (pidx k) = V at *
  have hVl : V.length ≤ 5 ∧ 1 ≤ V.length := by rw [← hV, List.length_cons]; omega
  have hVn : (pidx k).length + 1 = V.length := by rw [← hV, List.length_cons]; omega
  rw [hVn]
  refine go ?_
  refine W.loopS 562812514467976 rfl (fun q : Nat × Option Addr × Nat => [(3, .slice q.2.1 (V.length + q.1) q.2.2), (37, .int .i64 (q.1 : Int))]) (fun q => OZ q.2.1 q.2.2 (V ++ Ac.tw ts q.1) :: OQ ta tc b1 (List.range (ntx k)) :: pts b1 (.cells (acL k ns ts (.slice a ks.length c)).toArray 24) :: OK2 a c ks :: L)
    (fun q => q.1 ≤ ntx k ∧ ∃ b, q.2.1 = some ⟨b, 0, none⟩) (fun q => ntx k - q.1) (0, some ⟨lb2, 0, none⟩, lc) ⟨rfl, rfl, trivial⟩ ⟨Nat.zero_le _, lb2, rfl⟩ (by dsimp only; rw [show Ac.tw ts 0 = [] from rfl, List.append_nil]; exact Ent.app ent) ?_
  rintro ⟨i, la, lc⟩ bg2 ⟨hi, ⟨lb3, rfl⟩⟩
  dsimp only at hi ⊢
  have htl := Ac.tw_len ts i
  by_cases h1 : i < ntx k
  · have p1 := ptV_get b1 6 (List.range (ntx k)) i (by rw [List.length_range]; exact h1)
    rw [List.getElem_range] at p1
    have hst := tw_step ts i
    have hok := g4 i h1
    have rdf : ∀ Y X, RdS 1 ta (ntx k) (ptV b1 6 (List.range (ntx k))) (Y :: OQ ta tc b1 (List.range (ntx k)) :: X) := fun Y X => by unfold OQ; rw [List.length_range]; exact RdS.ownS (Tk.there Tk.here) sta (by simp [ptV])
    obtain ⟨fb, rfl⟩ := sta (by omega)
    have hget := acL_getT k ns ts (.slice a ks.length c) (show i < 2 by omega)
    generalize hU : V ++ Ac.tw ts i = U at *
    have hUl : U.length = V.length + i := by rw [← hU, List.length_append, htl]
    generalize ts.getD i [] = tx at *
    have hhl := hexT_len tx
    refine go ?_
    refine WO.sv rfl ?_
    refine SV.loadR (v := .pointer (some ⟨b1, 6 + i, none⟩)) i rfl (rdf _ _) (by omega) p1 ?_
    refine go ?_
    refine WO.sv rfl ?_
    refine SV.loadR (v := strV tx) (6 + i) rfl (RdS.all (sz := 1) (n := 9) rfl).cons.cons (by omega) hget ?_
    refine WO.callE (vs := [strV tx]) Tryd.func29 rfl rfl rfl rfl (sc_hex tx _ (by omega)) ?_
    rintro v M ⟨rfl, rfl⟩
    refine go ?_
    refine WO.sv rfl ?_
    refine SV.lit rfl rfl rfl parts rfl nl ?_
    intro b3
    unfold OZ
    rw [hUl]
    refine WO.sv rfl ?_
    refine SV.append rfl rfl rfl (Tk.there Tk.here) (RdS.src (RdS.all (sz := 1) (n := 1) rfl)) rfl rfl (by omega) rfl ?_
    intro a' c' ha'
    refine go ?_
    refine ⟨(i + 1, a', c'), ⟨rfl, rfl, trivial⟩, rfl, ⟨h1, ha' (by omega)⟩, by dsimp only; omega, ?_⟩
    dsimp only
    have e1 : V ++ Ac.tw ts (i + 1) = U ++ [hexT tx] := by rw [hst, ← hU]; simp
    have e2 : (U ++ [hexT tx]).length = V.length + i + 1 := by rw [List.length_append, hUl]; rfl
    rw [e1, e2, List.map_append]
    exact Ent.app ent
  obtain rfl : i = ntx k := by omega
  generalize hX : V ++ Ac.tw ts (ntx k) = X at *
  have hXn : V.length + ntx k = X.length := by rw [← hX, List.length_append, htl]
  have hXl : X.length ≤ 7 := by omega
  rw [hXn]
  have rdk : ∀ Y Z R, RdS 1 a ks.length (zv ks) (Y :: Z :: OK2 a c ks :: R) := fun Y Z R => by unfold OK2; exact RdS.ownS (Tk.there (Tk.there Tk.here)) sa (zv_len _)
  refine go ?_
  refine W.loopS 4607182418800017928 rfl (fun q : Nat × Option Addr × Nat => [(3, .slice q.2.1 (X.length + q.1) q.2.2), (52, .int .i64 (q.1 : Int))]) (fun q => OZ q.2.1 q.2.2 (X ++ Ac.kw (ks.take q.1)) :: pts b1 (.cells (acL k ns ts (.slice a ks.length c)).toArray 24) :: OK2 a c ks :: L)
    (fun q => q.1 ≤ ks.length ∧ ∃ b, q.2.1 = some ⟨b, 0, none⟩) (fun q => ks.length - q.1) (0, some ⟨lb3, 0, none⟩, lc) ⟨rfl, rfl, trivial⟩ ⟨Nat.zero_le _, lb3, rfl⟩ (by dsimp only; rw [show Ac.kw (ks.take 0) = [] from rfl, List.append_nil]; exact Ent.app ent) ?_
  rintro ⟨i, la, lc⟩ bg3 ⟨hi, ⟨lb4, rfl⟩⟩
  dsimp only at hi ⊢
  have hkl := Ac.kw_len (ks.take i)
  rw [List.length_take, Nat.min_eq_left hi] at hkl
  by_cases h1 : i < ks.length
  · have hst := kw_step ks i h1
    have hx := zv_get ks i h1
    have hok : okN (ks.getD i 0) := by
      by_cases z : k = 12
      · refine (g5 z).2 _ ?_
        rw [List.getD_eq_getElem?_getD, List.getElem?_eq_getElem h1]; exact List.getElem_mem h1
      · have := hba.2.2.2 z
        dsimp only at this
        rw [this] at h1; simp at h1
    unfold okN at hok
    have rdk' := rdk (OZ (some ⟨lb4, 0, none⟩) lc (X ++ Ac.kw (ks.take i))) (pts b1 (.cells (acL k ns ts (.slice a ks.length c)).toArray 24)) L
    obtain ⟨ab, rfl⟩ := sa (by omega)
    generalize hU : X ++ Ac.kw (ks.take i) = U at *
    have hUl : U.length = X.length + i := by rw [← hU, List.length_append, hkl]
    generalize hm0 : ks.getD i 0 = m0 at *
    obtain ⟨m1, rfl⟩ : ∃ m : Nat, m0 = m := ⟨m0.toNat, by omega⟩
    refine go ?_
    refine WO.sv rfl ?_
    refine SV.loadR (v := .int .i64 m1) i rfl rdk' (by omega) hx ?_
    refine go ?_
    refine WO.callE (vs := [.int .i64 m1]) Tryd.func27 rfl rfl rfl rfl (sc_digits m1 _ (by omega)) ?_
    rintro v M ⟨rfl, rfl⟩
    refine go ?_
    refine WO.sv rfl ?_
    refine SV.lit rfl rfl rfl parts rfl nl ?_
    intro b3
    unfold OZ
    rw [hUl]
    refine WO.sv rfl ?_
    refine SV.append rfl rfl rfl (Tk.there Tk.here) (RdS.src (RdS.all (sz := 1) (n := 1) rfl)) rfl rfl (by omega) rfl ?_
    intro a' c' ha'
    refine go ?_
    refine ⟨(i + 1, a', c'), ⟨rfl, rfl, trivial⟩, rfl, ⟨h1, ha' (by omega)⟩, by dsimp only; omega, ?_⟩
    dsimp only
    have e1 : X ++ Ac.kw (ks.take (i + 1)) = U ++ [dg m1] := by rw [hst, ← hU]; simp
    have e2 : (U ++ [dg m1]).length = X.length + i + 1 := by rw [List.length_append, hUl]; rfl
    rw [e1, e2, List.map_append]
    exact Ent.app ent
  obtain rfl : i = ks.length := by omega
  rw [List.take_length] at hkl ⊢
  have hfin : X ++ Ac.kw ks = Ac.ws ⟨k, ns, ts, ks⟩ := by
    rw [← hX, ← hV, ← hv0]
    unfold Ac.ws
    dsimp only
    by_cases z : k = 12
    · rw [if_pos z]; simp
    · rw [if_neg z, show ks = [] from hba.2.2.2 z]; simp [Ac.kw]
  have hfl : X.length + ks.length = (X ++ Ac.kw ks).length := by rw [List.length_append, hkl]
  rw [hfl, hfin]
  refine W.ownCap (show Tk _ (Own 9 1 (.slice (some ⟨lb4, 0, none⟩) (Ac.ws ⟨k, ns, ts, ks⟩).length lc) (Ac.ws ⟨k, ns, ts, ks⟩).length ((Ac.ws ⟨k, ns, ts, ks⟩).map strV)) _ from by unfold OZ; exact Tk.here) fun hcap => ?_
  refine go ?_
  refine WO.callE (vs := [.slice (some ⟨lb4, 0, none⟩) (Ac.ws ⟨k, ns, ts, ks⟩).length lc, strV [32]]) Tryd.func30 rfl rfl rfl rfl (st_Join (Ac.ws ⟨k, ns, ts, ks⟩) (some ⟨lb4, 0, none⟩) lc _ (Ac.ws_ne _) hcap hlen' (by unfold OZ; exact RdS.ownS Tk.here (fun _ => ⟨lb4, rfl⟩) (by simp))) ?_
  rintro v M ⟨rfl, rfl⟩
  refine go ?_
  exact ⟨rfl, [_], ⟨Res.tmp rfl, trivial⟩, L, ent, ⟨_, rfl, fun _ => hte.symm, fun z => absurd hR z⟩, rfl⟩
end Go.SL

/- Layer 32 (script), the plain law: what words are an act's. -/
namespace Go.SL
set_option linter.unusedVariables false
set_option linter.unusedSimpArgs false
set_option linter.unusedSectionVars false

namespace Ac
/-- No act has these words. -/
def Bad (l : List BL) : Prop := ∀ A : Ac, A.right → A.ws ≠ l
theorem verb_of {A : Ac} (h : A.right) {w : BL} {r : List BL} (e : A.ws = w :: r) : w ∈ verbL := by
  obtain ⟨h1, h2, _⟩ := h
  unfold ws at e
  injection e with e1 e2
  rw [← e1, List.getD_eq_getElem?_getD, List.getElem?_eq_getElem (show A.k.toNat < verbL.length by show _ < 13; omega)]
  exact List.getElem_mem _
theorem head_get {P R : List BL} : (P ++ R)[P.length]? = R[0]? := by
  rw [List.getElem?_append_right (Nat.le_refl _), Nat.sub_self]
theorem at_num {A : Ac} {k : Int} {P R : List BL} (h : A.right) (hk : 0 ≤ k ∧ k ≤ 12) (e : A.ws = verbL.getD k.toNat [] :: (P ++ R)) (hi : P.length < (pidx k).length) : ∃ w R', R = w :: R' ∧ ∃ m, m < 2147483648 ∧ w = dg m := by
  obtain ⟨e1, e2⟩ := ws_kind h hk e
  have q1 : (nw A.ns (pidx k) ++ (tw A.ts (ntx k) ++ (if k = 12 then kw A.ks else [])))[P.length]? = some (dg (A.ns.getD (pidx k)[P.length] 0).toNat) := by
    rw [List.getElem?_append_left (by rw [nw_len]; exact hi)]
    unfold nw
    rw [List.getElem?_map, List.getElem?_eq_getElem hi]; rfl
  rw [e2, head_get] at q1
  have hok := h.2.2.1 (pidx k)[P.length] (by rw [e1]; exact List.getElem_mem hi)
  unfold okN at hok
  cases R with
  | nil => cases q1
  | cons w R' =>
    simp only [List.getElem?_cons_zero, Option.some.injEq] at q1
    exact ⟨w, R', rfl, _, by omega, q1⟩
theorem at_txt {A : Ac} {k : Int} {P R : List BL} {j : Nat} (h : A.right) (hk : 0 ≤ k ∧ k ≤ 12) (e : A.ws = verbL.getD k.toNat [] :: (P ++ R)) (hP : P.length = (pidx k).length + j) (hj : j < ntx k) : ∃ w R', R = w :: R' ∧ ∃ t, w = hexT t := by
  obtain ⟨e1, e2⟩ := ws_kind h hk e
  have q1 : (nw A.ns (pidx k) ++ (tw A.ts (ntx k) ++ (if k = 12 then kw A.ks else [])))[P.length]? = some (hexT (A.ts.getD j [])) := by
    rw [List.getElem?_append_right (by rw [nw_len]; omega), nw_len, hP, Nat.add_sub_cancel_left, List.getElem?_append_left (by rw [tw_len]; exact hj)]
    unfold tw
    rw [List.getElem?_map, List.getElem?_range hj]; rfl
  rw [e2, head_get] at q1
  cases R with
  | nil => cases q1
  | cons w R' =>
    simp only [List.getElem?_cons_zero, Option.some.injEq] at q1
    exact ⟨w, R', rfl, _, q1⟩
theorem at_keep {A : Ac} {P R : List BL} {w : BL} (h : A.right) (e : A.ws = verbL.getD 12 [] :: (P ++ w :: R)) (hP : (pidx 12).length + ntx 12 ≤ P.length) : ∃ m, m < 2147483648 ∧ w = dg m := by
  obtain ⟨e1, e2⟩ := ws_kind (k := 12) h (by decide) e
  rw [if_pos rfl] at e2
  have q1 : (P ++ w :: R)[P.length]? = some w := by rw [head_get]; rfl
  rw [← e2, List.getElem?_append_right (by rw [nw_len]; omega), List.getElem?_append_right (by rw [nw_len, tw_len]; omega)] at q1
  have hm := List.mem_of_getElem? q1
  obtain ⟨n, hn, rfl⟩ := List.mem_map.1 hm
  have := (h.2.2.2.2 e1).2 n hn
  unfold okN at this
  exact ⟨_, by omega, rfl⟩
theorem at_end {A : Ac} {k : Int} {P R : List BL} (h : A.right) (hk : 0 ≤ k ∧ k ≤ 12) (h12 : k ≠ 12) (e : A.ws = verbL.getD k.toNat [] :: (P ++ R)) (hP : P.length = (pidx k).length + ntx k) : R = [] := by
  obtain ⟨e1, e2⟩ := ws_kind h hk e
  rw [if_neg h12] at e2
  have := congrArg List.length e2
  rw [List.length_append, List.length_append, nw_len, tw_len, List.length_append] at this
  refine List.length_eq_zero_iff.1 ?_
  simp at this; omega
end Ac
theorem jn_mem : ∀ {l : List BL} {w : BL}, w ∈ l → w.length ≤ (jn l).length
  | [], _, h => by cases h
  | [v], w, h => by rw [List.mem_singleton.1 h]; exact Nat.le_refl _
  | v :: v' :: r, w, h => by
    rw [jn_cons (List.cons_ne_nil _ _), List.length_append, List.length_cons]
    rcases List.mem_cons.1 h with e | h
    · rw [e]; omega
    · have := jn_mem h; omega
/-- The kinds, by their verbs. -/
def kinds (i : Nat) : List (BL × Value) := ((verbL.take i).zipIdx).map fun p => (p.1, Value.int .i64 (p.2 : Int))
theorem kinds_new : ∀ i : Fin 13, (mget (kinds i) (verbL.getD i []) = none) := by
  intro i
  match i with
  | ⟨0, _⟩ => rfl
  | ⟨1, _⟩ => rfl
  | ⟨2, _⟩ => rfl
  | ⟨3, _⟩ => rfl
  | ⟨4, _⟩ => rfl
  | ⟨5, _⟩ => rfl
  | ⟨6, _⟩ => rfl
  | ⟨7, _⟩ => rfl
  | ⟨8, _⟩ => rfl
  | ⟨9, _⟩ => rfl
  | ⟨10, _⟩ => rfl
  | ⟨11, _⟩ => rfl
  | ⟨12, _⟩ => rfl
theorem kinds_set (i : Nat) (h : i < 13) : mset (kinds i) (verbL.getD i []) (.int .i64 (i : Int)) = kinds (i + 1) := by
  rw [mset_new _ _ _ (kinds_new ⟨i, h⟩)]
  match i, h with
  | 0, _ => rfl
  | 1, _ => rfl
  | 2, _ => rfl
  | 3, _ => rfl
  | 4, _ => rfl
  | 5, _ => rfl
  | 6, _ => rfl
  | 7, _ => rfl
  | 8, _ => rfl
  | 9, _ => rfl
  | 10, _ => rfl
  | 11, _ => rfl
  | 12, _ => rfl
theorem kinds_get (w : BL) : (∃ k : Nat, k < 13 ∧ mget (kinds 13) w = some (.int .i64 (k : Int)) ∧ w = verbL.getD k []) ∨ (mget (kinds 13) w = none ∧ w ∉ verbL) := by
  by_cases h : w ∈ verbL
  · left
    obtain ⟨k, hk, e⟩ := List.mem_iff_getElem.1 h
    have hk' : k < 13 := hk
    refine ⟨k, hk', ?_, by rw [List.getD_eq_getElem?_getD, List.getElem?_eq_getElem hk]; exact e.symm⟩
    subst e
    match k, hk' with
    | 0, _ => rfl
    | 1, _ => rfl
    | 2, _ => rfl
    | 3, _ => rfl
    | 4, _ => rfl
    | 5, _ => rfl
    | 6, _ => rfl
    | 7, _ => rfl
    | 8, _ => rfl
    | 9, _ => rfl
    | 10, _ => rfl
    | 11, _ => rfl
    | 12, _ => rfl
  · right
    refine ⟨?_, h⟩
    have key : ∀ (l : List (BL × Value)), (∀ p ∈ l, p.1 ≠ w) → mget l w = none := by
      intro l
      induction l with
      | nil => intro _; rfl
      | cons p l ih =>
        intro hl
        obtain ⟨a, v⟩ := p
        unfold mget
        rw [if_neg (fun e => hl (a, v) List.mem_cons_self e.symm)]
        exact ih fun q hq => hl q (List.mem_cons_of_mem _ hq)
    refine key _ fun p hp e => h ?_
    obtain ⟨q, hq, rfl⟩ := List.mem_map.1 hp
    have := List.mem_zipIdx hq
    dsimp only at e
    rw [← e]
    obtain ⟨q1, q2⟩ := q
    have h3 := this.2.2
    dsimp only at h3 ⊢
    rw [h3]
    exact List.mem_of_mem_take (List.getElem_mem _)
end Go.SL

/- Layer 32 (script): the next word, and the next number, walked. -/
namespace Go.SL
open Go.Proofs
set_option linter.unusedVariables false
set_option linter.unusedSimpArgs false
set_option linter.unusedSectionVars false
set_option maxRecDepth 10000
set_option maxHeartbeats 4000000
attribute [local irreducible] W WO SV OW SW Tri Ent Tk Has Src SrcK DA DB DP RdS Own OwnT MapH

instance : TA Tryd.prog 36 false := ⟨by kernel_rfl⟩
instance : TS Tryd.prog 36 1 := ⟨by kernel_rfl⟩
instance : TB Tryd.prog 36 8 := ⟨by kernel_rfl⟩
instance : TZ Tryd.prog 36 [.nilFunc] := ⟨by kernel_rfl⟩
/-- What is left of words. -/
def ltV (lb c n p : Nat) : Value := .slice (some ⟨lb, p, none⟩) (n - p) (c - p)
theorem sc_next (b4 b9 lb c p : Nat) (fine : Bool) (l : List BL) (L : List HP) (hp : p < l.length) (hc : l.length ≤ c) (hl0 : l.length ≤ 1000000) (r : RdS 1 (some ⟨lb, 0, none⟩) l.length (l.map strV) L) :
    TriE Tryd.prog 37 #[.pointer (some ⟨b4, 0, none⟩), .pointer (some ⟨b9, 0, none⟩)] (fun v M => (p + 1 = l.length ∧ v = strV [] ∧ M = pts b4 (.cells [ltV lb c l.length p].toArray 62) :: pts b9 (.cells [.bool false].toArray 4) :: L) ∨
      (p + 1 < l.length ∧ v = strV (l.getD (p + 1) []) ∧ M = pts b4 (.cells [ltV lb c l.length (p + 1)].toArray 62) :: pts b9 (.cells [.bool fine].toArray 4) :: L))
      (pts b4 (.cells [ltV lb c l.length p].toArray 62) :: pts b9 (.cells [.bool fine].toArray 4) :: L) := by
  unfold ltV
  refine Tri.of (N := 11) (args := [.pointer (some ⟨b4, 0, none⟩), .pointer (some ⟨b9, 0, none⟩)]) Tryd.func37 rfl rfl rfl ?_
  by_cases h : p + 1 < l.length
  · have x : (l.map strV)[p + 1]? = some (strV (l.getD (p + 1) [])) := by rw [List.getElem?_map, List.getD_eq_getElem?_getD, List.getElem?_eq_getElem h]; rfl
    refine go ?_
    refine WO.sv rfl ?_
    refine SV.cut (l := 1) (h := l.length - p) rfl (cutAt.of rfl rfl) rfl (by omega) (by omega) ?_
    intro off' hoff
    obtain rfl : off' = p + 1 * 1 := hoff (.inl (by omega))
    refine go ?_
    refine WO.sv rfl ?_
    refine SV.loadR (v := strV (l.getD (p + 1) [])) (p + 1) rfl r.cons.cons (by omega) x ?_
    refine go ?_
    exact ⟨rfl, [_], ⟨Res.tmp rfl, trivial⟩, _, ent, .inr ⟨h, rfl, rfl⟩⟩
  · refine go ?_
    exact ⟨rfl, [_], ⟨Res.tmp rfl, trivial⟩, _, ent, .inl ⟨by omega, rfl, rfl⟩⟩
def nxV (b4 b9 : Nat) : Value := .func (.func 37) #[] [Value.pointer (some ⟨b4, 0, none⟩), .pointer (some ⟨b9, 0, none⟩)].toArray
theorem sc_take (b4 b9 b10 lb c p : Nat) (fine : Bool) (l : List BL) (L : List HP) (hp : p < l.length) (hc : l.length ≤ c) (hl0 : l.length ≤ 1000000) (hw : ∀ w ∈ l, w.length ≤ 100000) (r : RdS 1 (some ⟨lb, 0, none⟩) l.length (l.map strV) L) :
    TriE Tryd.prog 38 #[.pointer (some ⟨b10, 0, none⟩), .pointer (some ⟨b9, 0, none⟩)] (fun v M => (p + 1 = l.length ∧ (∃ n : Nat, n < 2147483648 ∧ v = .int .i64 n) ∧ M = pts b10 (.cells [nxV b4 b9].toArray 36) :: pts b4 (.cells [ltV lb c l.length p].toArray 62) :: pts b9 (.cells [.bool false].toArray 4) :: L) ∨
      (p + 1 < l.length ∧ ∃ (n : Nat) (ok : Bool), NumP (l.getD (p + 1) []) n ok ∧ v = .int .i64 n ∧ M = pts b10 (.cells [nxV b4 b9].toArray 36) :: pts b4 (.cells [ltV lb c l.length (p + 1)].toArray 62) :: pts b9 (.cells [.bool (fine && ok)].toArray 4) :: L))
      (pts b10 (.cells [nxV b4 b9].toArray 36) :: pts b4 (.cells [ltV lb c l.length p].toArray 62) :: pts b9 (.cells [.bool fine].toArray 4) :: L) := by
  refine Tri.of (N := 16) (args := [.pointer (some ⟨b10, 0, none⟩), .pointer (some ⟨b9, 0, none⟩)]) Tryd.func38 rfl rfl rfl ?_
  refine go ?_
  refine WO.callW (cs := [Value.pointer (some ⟨b4, 0, none⟩), .pointer (some ⟨b9, 0, none⟩)]) (vs := []) rfl Tryd.func37 rfl rfl rfl rfl (TriE.ent ent (sc_next b4 b9 lb c p fine l (pts b10 (.cells [nxV b4 b9].toArray 36) :: L) hp hc hl0 r.cons)) ?_
  rintro v M (⟨h1, rfl, rfl⟩ | ⟨h1, rfl, rfl⟩)
  · refine go ?_
    refine WO.callE (vs := [strV []]) Tryd.func39 rfl rfl rfl rfl (sc_number [] _ (by decide)) ?_
    rintro v M ⟨⟨n, ok, rfl, hn⟩, rfl⟩
    refine go ?_
    refine ⟨rfl, [_], ⟨Res.tmp rfl, trivial⟩, pts b10 (.cells [nxV b4 b9].toArray 36) :: pts b4 (.cells [ltV lb c l.length p].toArray 62) :: pts b9 (.cells [.bool false].toArray 4) :: L, ent, .inl ⟨h1, ⟨n, hn.1, rfl⟩, rfl⟩⟩
  · have hwl : (l.getD (p + 1) []).length ≤ 100000 := by
      rw [List.getD_eq_getElem?_getD, List.getElem?_eq_getElem h1]; exact hw _ (List.getElem_mem h1)
    refine go ?_
    refine WO.callE (vs := [strV (l.getD (p + 1) [])]) Tryd.func39 rfl rfl rfl rfl (sc_number _ _ hwl) ?_
    rintro v M ⟨⟨n, ok, rfl, hn⟩, rfl⟩
    cases fine with
    | false =>
      refine go ?_
      exact ⟨rfl, [_], ⟨Res.tmp rfl, trivial⟩, pts b10 (.cells [nxV b4 b9].toArray 36) :: pts b4 (.cells [ltV lb c l.length (p + 1)].toArray 62) :: pts b9 (.cells [.bool false].toArray 4) :: L, ent, .inr ⟨h1, n, ok, hn, rfl, rfl⟩⟩
    | true =>
      refine go ?_
      exact ⟨rfl, [_], ⟨Res.tmp rfl, trivial⟩, pts b10 (.cells [nxV b4 b9].toArray 36) :: pts b4 (.cells [ltV lb c l.length (p + 1)].toArray 62) :: pts b9 (.cells [.bool ok].toArray 4) :: L, ent, .inr ⟨h1, n, ok, hn, rfl, rfl⟩⟩
end Go.SL

/- Layer 32 (script), the plain law: what is read word by word. -/
namespace Go.SL
set_option linter.unusedVariables false
set_option linter.unusedSimpArgs false
set_option linter.unusedSectionVars false

theorem take_not {l : List Nat} (h : l.Nodup) {i : Nat} (hi : i < l.length) : l[i] ∉ l.take i := by
  intro hm
  obtain ⟨j, hj, e⟩ := List.mem_iff_getElem.1 hm
  rw [List.getElem_take] at e
  rw [List.length_take] at hj
  have := (List.getElem_inj (h₀ := by omega) (h₁ := hi) h).1 e
  omega
theorem nw_set (ns : List Int) (j : Nat) (v : Int) (l : List Nat) (hj : j ∉ l) (hl : j < ns.length) : Ac.nw (ns.set j v) l = Ac.nw ns l := by
  unfold Ac.nw
  refine List.map_congr_left fun q hq => ?_
  rw [getD_setZ hl, if_neg (fun (e : q = j) => hj (e ▸ hq))]
theorem tw_set (ts : List BL) (j : Nat) (v : BL) (hl : j < ts.length) : Ac.tw (ts.set j v) j = Ac.tw ts j := by
  unfold Ac.tw
  refine List.map_congr_left fun q hq => ?_
  rw [getD_setB hl, if_neg (fun e => by have := List.mem_range.1 hq; omega)]
theorem take_getD {l : List BL} {p : Nat} (h : p + 1 < l.length) : l.take (p + 1 + 1) = l.take (p + 1) ++ [l.getD (p + 1) []] := by
  rw [List.take_add_one, List.getElem?_eq_getElem h, List.getD_eq_getElem?_getD, List.getElem?_eq_getElem h]; rfl
theorem drop_getD {l : List BL} {p : Nat} (h : p + 1 < l.length) : l.drop (p + 1) = l.getD (p + 1) [] :: l.drop (p + 1 + 1) := by
  rw [List.drop_eq_getElem_cons h, List.getD_eq_getElem?_getD, List.getElem?_eq_getElem h]; rfl
/-- Of a kind's numbers the first ones are read. -/
structure PI1 (l : List BL) (k : Nat) (i p : Nat) (fine : Bool) (ns : List Int) : Prop where
  hp : p < l.length
  hn : ns.length = 5
  hz : ∀ j, j ∉ (pidx k).take i → ns.getD j 0 = 0
  ok : ∀ j, okN (ns.getD j 0)
  yes : fine = true → p = i ∧ l.take (p + 1) = verbL.getD k [] :: Ac.nw ns ((pidx k).take i)
  no : fine = false → Ac.Bad l
variable {l : List BL} {k i p : Nat} {fine : Bool} {ns : List Int}
theorem nw_take_len (ns : List Int) {l : List Nat} {i : Nat} (h : i ≤ l.length) : (Ac.nw ns (l.take i)).length = i := by rw [Ac.nw_len, List.length_take, Nat.min_eq_left h]
theorem PI1.ws (h : PI1 l k i p true ns) : l = verbL.getD k [] :: (Ac.nw ns ((pidx k).take i) ++ l.drop (p + 1)) := by
  conv => lhs; rw [← List.take_append_drop (p + 1) l, (h.yes rfl).2]
  rfl
theorem PI1.set (h : PI1 l k i p fine ns) (hi : i < (pidx k).length) {n : Nat} (hn : n < 2147483648) : (ns.set (pidx k)[i] (n : Int)).length = 5 ∧ (∀ j, j ∉ (pidx k).take (i + 1) → (ns.set (pidx k)[i] (n : Int)).getD j 0 = 0) ∧ (∀ j, okN ((ns.set (pidx k)[i] (n : Int)).getD j 0)) := by
  have hj := (pidx_ok k).2.1 _ (List.getElem_mem hi)
  refine ⟨by rw [List.length_set]; exact h.hn, fun j hm => ?_, fun j => ?_⟩
  · rw [List.take_add_one, List.getElem?_eq_getElem hi, Option.toList_some] at hm
    rw [getD_setZ (by rw [h.hn]; exact hj), if_neg (fun e => hm (List.mem_append_right _ (List.mem_singleton.2 e)))]
    exact h.hz j fun z => hm (List.mem_append_left _ z)
  · rw [getD_setZ (by rw [h.hn]; exact hj)]
    split
    · unfold okN; omega
    · exact h.ok j
theorem PI1.lack (h : PI1 l k i p fine ns) (hk : k < 13) (hi : i < (pidx k).length) (hp : p + 1 = l.length) {n : Nat} (hn : n < 2147483648) : PI1 l k (i + 1) p false (ns.set (pidx k)[i] (n : Int)) := by
  obtain ⟨s1, s2, s3⟩ := h.set hi hn
  refine ⟨h.hp, s1, s2, s3, fun z => (by cases z), fun _ => ?_⟩
  cases fine with
  | false => exact h.no rfl
  | true =>
    intro A hA e
    have hw := h.ws
    rw [← e] at hw
    obtain ⟨w, R', e1, _⟩ := Ac.at_num (k := (k : Int)) hA (by omega) hw (by rw [nw_take_len ns (by omega)]; exact hi)
    rw [e, hp, List.drop_length] at e1
    cases e1
theorem PI1.step (h : PI1 l k i p fine ns) (hk : k < 13) (hi : i < (pidx k).length) (hp : p + 1 < l.length) {n : Nat} {ok : Bool} (hn : NumP (l.getD (p + 1) []) n ok) : PI1 l k (i + 1) (p + 1) (fine && ok) (ns.set (pidx k)[i] (n : Int)) := by
  obtain ⟨s1, s2, s3⟩ := h.set hi hn.1
  have hj := (pidx_ok k).2.1 _ (List.getElem_mem hi)
  refine ⟨hp, s1, s2, s3, fun z => ?_, fun z => ?_⟩
  · rw [Bool.and_eq_true] at z
    obtain ⟨z1, z2⟩ := z
    subst z1
    obtain ⟨y1, y2⟩ := h.yes rfl
    refine ⟨by omega, ?_⟩
    rw [take_getD hp, y2, nw_step _ _ _ hi, nw_set _ _ _ _ (take_not (pidx_ok k).1 hi) (by rw [h.hn]; exact hj), getD_setZ (by rw [h.hn]; exact hj), if_pos rfl, Int.toNat_natCast, ← hn.2.1 z2]
    rfl
  · cases fine with
    | false => exact h.no rfl
    | true =>
      intro A hA e
      have hw := h.ws
      rw [← e] at hw
      obtain ⟨w, R', e1, m, hm, e2⟩ := Ac.at_num (k := (k : Int)) hA (by omega) hw (by rw [nw_take_len ns (by omega)]; exact hi)
      rw [e, drop_getD hp] at e1
      injection e1 with e1 _
      rw [(hn.2.2 m hm (by rw [e1, e2])).1] at z
      cases z
/-- Of a kind's texts the first ones are read. -/
structure PI2 (l : List BL) (k : Nat) (ns : List Int) (j p : Nat) (fine : Bool) (ts : List BL) : Prop where
  hp : p < l.length
  hn : ts.length = 2
  hz : ∀ q, j ≤ q → ts.getD q [] = []
  len : ∀ q, (ts.getD q []).length ≤ 100000
  yes : fine = true → p = (pidx k).length + j ∧ l.take (p + 1) = verbL.getD k [] :: (Ac.nw ns (pidx k) ++ Ac.tw ts j)
  no : fine = false → Ac.Bad l
theorem PI1.done (h : PI1 l k (pidx k).length p fine ns) : PI2 l k ns 0 p fine [[], []] := by
  have hz : ∀ q, ([[], []] : List BL).getD q [] = [] := fun q => by
    match q with
    | 0 => rfl
    | 1 => rfl
    | _ + 2 => rfl
  refine ⟨h.hp, rfl, fun q _ => hz q, fun q => by rw [hz q]; decide, fun z => ?_, h.no⟩
  · obtain ⟨y1, y2⟩ := h.yes z
    rw [List.take_length] at y2
    exact ⟨y1, by rw [y2, show Ac.tw [[], []] 0 = [] from rfl, List.append_nil]⟩
variable {j : Nat} {ts : List BL}
theorem PI2.ws (h : PI2 l k ns j p true ts) : l = verbL.getD k [] :: ((Ac.nw ns (pidx k) ++ Ac.tw ts j) ++ l.drop (p + 1)) := by
  conv => lhs; rw [← List.take_append_drop (p + 1) l, (h.yes rfl).2]
  rfl
theorem PI2.set (h : PI2 l k ns j p fine ts) (hj : j < ntx k) (t : BL) (ht : t.length ≤ 100000) : (ts.set j t).length = 2 ∧ (∀ q, j + 1 ≤ q → (ts.set j t).getD q [] = []) ∧ ∀ q, ((ts.set j t).getD q []).length ≤ 100000 := by
  have := ntx_le k
  refine ⟨by rw [List.length_set]; exact h.hn, fun q hq => ?_, fun q => ?_⟩
  · rw [getD_setB (by rw [h.hn]; omega), if_neg (by omega)]
    exact h.hz q (by omega)
  · rw [getD_setB (by rw [h.hn]; omega)]
    split
    · exact ht
    · exact h.len q
theorem PI2.lack (h : PI2 l k ns j p fine ts) (hk : k < 13) (hj : j < ntx k) (hp : p + 1 = l.length) (t : BL) (ht : t.length ≤ 100000) : PI2 l k ns (j + 1) p false (ts.set j t) := by
  obtain ⟨s1, s2, s3⟩ := h.set hj t ht
  refine ⟨h.hp, s1, s2, s3, fun z => (by cases z), fun _ => ?_⟩
  cases fine with
  | false => exact h.no rfl
  | true =>
    intro A hA e
    have hw := h.ws
    rw [← e] at hw
    obtain ⟨w, R', e1, _⟩ := Ac.at_txt (k := (k : Int)) hA (by omega) hw (by rw [List.length_append, Ac.nw_len, Ac.tw_len]) hj
    rw [e, hp, List.drop_length] at e1
    cases e1
theorem PI2.step (h : PI2 l k ns j p fine ts) (hk : k < 13) (hj : j < ntx k) (hp : p + 1 < l.length) {t : BL} {ok : Bool} (hn : TxtP (l.getD (p + 1) []) t ok) (ht : t.length ≤ 100000) : PI2 l k ns (j + 1) (p + 1) (fine && ok) (ts.set j t) := by
  obtain ⟨s1, s2, s3⟩ := h.set hj t ht
  have hn2 := ntx_le k
  refine ⟨hp, s1, s2, s3, fun z => ?_, fun z => ?_⟩
  · rw [Bool.and_eq_true] at z
    obtain ⟨z1, z2⟩ := z
    subst z1
    obtain ⟨y1, y2⟩ := h.yes rfl
    refine ⟨by omega, ?_⟩
    rw [take_getD hp, y2, tw_step, tw_set _ _ _ (by rw [h.hn]; omega), getD_setB (by rw [h.hn]; omega), if_pos rfl, ← hn.2.1 z2]
    simp
  · cases fine with
    | false => exact h.no rfl
    | true =>
      intro A hA e
      have hw := h.ws
      rw [← e] at hw
      obtain ⟨w, R', e1, t', e2⟩ := Ac.at_txt (k := (k : Int)) hA (by omega) hw (by rw [List.length_append, Ac.nw_len, Ac.tw_len]) hj
      rw [e, drop_getD hp] at e1
      injection e1 with e1 _
      rw [(hn.2.2 t' (by rw [e1, e2])).1] at z
      cases z
/-- What is kept is read. -/
structure PI3 (l : List BL) (k : Nat) (ns : List Int) (ts : List BL) (p : Nat) (fine : Bool) (ks : List Int) : Prop where
  hp : p < l.length
  ok : ∀ n ∈ ks, okN n
  yes : fine = true → p = (pidx k).length + ntx k + ks.length ∧ l.take (p + 1) = verbL.getD k [] :: (Ac.nw ns (pidx k) ++ (Ac.tw ts (ntx k) ++ Ac.kw ks))
  no : fine = false → Ac.Bad l
  le : ks.length ≤ p
  off : k ≠ 12 → ks = []
theorem PI2.done (h : PI2 l k ns (ntx k) p fine ts) : PI3 l k ns ts p fine [] := by
  refine ⟨h.hp, by simp, fun z => ?_, h.no, Nat.zero_le _, fun _ => rfl⟩
  obtain ⟨y1, y2⟩ := h.yes z
  exact ⟨by simpa using y1, by rw [y2, show Ac.kw [] = [] from rfl, List.append_nil]⟩
variable {ks : List Int}
theorem PI3.ws (h : PI3 l k ns ts p true ks) : l = verbL.getD k [] :: ((Ac.nw ns (pidx k) ++ (Ac.tw ts (ntx k) ++ Ac.kw ks)) ++ l.drop (p + 1)) := by
  conv => lhs; rw [← List.take_append_drop (p + 1) l, (h.yes rfl).2]
  rfl
theorem PI3.step (h : PI3 l 12 ns ts p true ks) (hp : p + 1 < l.length) {n : Nat} {ok : Bool} (hn : NumP (l.getD (p + 1) []) n ok) : PI3 l 12 ns ts (p + 1) ok (ks ++ [(n : Int)]) := by
  obtain ⟨y1, y2⟩ := h.yes rfl
  refine ⟨hp, fun m hm => ?_, fun z => ?_, fun z => ?_, by have := h.le; simp; omega, fun z => absurd rfl z⟩
  · rcases List.mem_append.1 hm with hm | hm
    · exact h.ok m hm
    · rw [List.mem_singleton.1 hm]
      have := hn.1
      unfold okN; omega
  · refine ⟨by rw [List.length_append]; show p + 1 = _ + _ + (ks.length + 1); omega, ?_⟩
    rw [take_getD hp, y2, hn.2.1 z]
    unfold Ac.kw
    rw [List.map_append, List.cons_append, List.append_assoc, List.append_assoc]; rfl
  · subst z
    intro A hA e
    have hw := h.ws
    rw [← e, drop_getD (l := A.ws) (by rw [e]; exact hp)] at hw
    obtain ⟨m, hm, e2⟩ := Ac.at_keep hA hw (by
      rw [List.length_append, List.length_append, Ac.nw_len, Ac.tw_len]
      show (pidx ((12 : Nat) : Int)).length + ntx ((12 : Nat) : Int) ≤ _
      omega)
    rw [e] at e2
    have := (hn.2.2 m hm e2).1
    cases this
/-- All words are read. -/
theorem PI3.all (h : PI3 l k ns ts p true ks) (hk : k < 13) (hp : p + 1 = l.length) : Ac.ws ⟨k, ns, ts, ks⟩ = l := by
  have := h.ws
  rw [hp, List.drop_length, List.append_nil] at this
  rw [this]
  unfold Ac.ws
  dsimp only
  by_cases z : (k : Int) = 12
  · rw [if_pos z]; rfl
  · rw [if_neg z, h.off (by omega)]; rfl
theorem PI3.more (h : PI3 l k ns ts p fine ks) (hk : k < 13) (h12 : k ≠ 12) (hp : p + 1 < l.length) : Ac.Bad l := by
  cases fine with
  | false => exact h.no rfl
  | true =>
    intro A hA e
    have hw := h.ws
    rw [← e] at hw
    have hks := h.off h12
    have := Ac.at_end (k := (k : Int)) hA (by omega) (by omega) hw (by rw [List.length_append, List.length_append, Ac.nw_len, Ac.tw_len, hks]; rfl)
    rw [e, drop_getD hp] at this
    cases this
theorem PI3.wrong (h : PI3 l k ns ts p true ks) (hk : k < 13) (ok : ∀ j, okN (ns.getD j 0)) (hp : p + 1 = l.length) (hr : ¬Ac.right ⟨k, ns, ts, ks⟩) : Ac.Bad l := by
  intro A hA e
  refine hr (Ac.same (B := ⟨k, ns, ts, ks⟩) hA ⟨by dsimp only; omega, by dsimp only; omega⟩ (fun j _ => ok j) (fun _ => h.ok) ?_).1
  rw [e, h.all hk hp]
theorem Ac.clean_self {k : Int} {ns : List Int} {ts : List BL} {ks : List Int} (h1 : ns.length = 5) (h2 : ∀ j, j ∉ pidx k → ns.getD j 0 = 0) (h3 : ts.length = 2) (h4 : ∀ q, ntx k ≤ q → ts.getD q [] = []) (h5 : k ≠ 12 → ks = []) : Ac.clean ⟨k, ns, ts, ks⟩ = ⟨k, ns, ts, ks⟩ := by
  unfold Ac.clean
  dsimp only
  congr 1
  · apply List.ext_getElem
    · simp [h1]
    · intro j q1 q2
      rw [List.getElem_map, List.getElem_range]
      have e : ns.getD j 0 = ns[j] := by rw [List.getD_eq_getElem?_getD, List.getElem?_eq_getElem q2]; rfl
      by_cases z : j ∈ pidx k
      · rw [if_pos z, e]
      · rw [if_neg z, ← e, h2 j z]
  · apply List.ext_getElem
    · simp [h3]
    · intro j q1 q2
      rw [List.getElem_map, List.getElem_range]
      have e : ts.getD j [] = ts[j] := by rw [List.getD_eq_getElem?_getD, List.getElem?_eq_getElem q2]; rfl
      by_cases z : j < ntx k
      · rw [if_pos z, e]
      · rw [if_neg z, ← e, h4 j (by omega)]
  · by_cases z : k = 12
    · rw [if_pos z]
    · rw [if_neg z, h5 z]
end Go.SL

/- Layer 32 (script): the act of a line, walked. -/
namespace Go.SL
open Go.Proofs
set_option linter.unusedVariables false
set_option linter.unusedSimpArgs false
set_option linter.unusedSectionVars false
set_option maxRecDepth 10000
set_option maxHeartbeats 4000000
attribute [local irreducible] W WO SV OW SW Tri Ent Tk Has Src SrcK DA DB DP RdS Own OwnT MapH

def acZ : Ac := ⟨0, [], [], []⟩
theorem bad_text {s : BL} {l : List BL} (hb : Ac.Bad l) (hl : l ≠ []) (hj : jn l = s) (hn : ∀ w ∈ l, (32 : UInt8) ∉ w) : ∀ A : Ac, A.right → A.text ≠ s := fun A hA e =>
  hb A hA (jn_uniq A.ws_ne hl (A.ws_blank ⟨hA.1, hA.2.1⟩) hn (by rw [hj, ← e]; rfl))
theorem sc_Parse (s : BL) (L : List HP) (hs : s.length ≤ 100000) :
    TriE Tryd.prog 13 #[strV s] (fun v M => (∃ B a c, v = .tuple #[acV B a c, .int .i64 0] ∧ B.right ∧ B.bare ∧ B.clean = B ∧ B.text = s ∧ SomeA a B.ks.length ∧ M = OK2 a c B.ks :: L) ∨
      (v = .tuple #[acV acZ none 0, .int .i64 30] ∧ (∀ A : Ac, A.right → A.text ≠ s) ∧ M = L)) L := by
  refine Tri.of (N := 108) (args := [strV s]) Tryd.func13 rfl rfl rfl ?_
  refine go ?_
  intro b2
  refine go ?_
  refine WO.callE (vs := [strV s, strV [32]]) Tryd.func36 rfl rfl rfl rfl (st_Split s _ hs) ?_
  rintro v M ⟨lb, c, l, rfl, rfl, hne, hjn, hbl, hll⟩
  have hpos : 0 < l.length := List.length_pos_iff.2 hne
  have hw : ∀ w ∈ l, w.length ≤ 100000 := fun w hw => by have := jn_mem hw; rw [hjn] at this; omega
  have hbt := fun q => bad_text (s := s) (l := l) q hne hjn hbl
  refine WO.ownCap (show Tk _ (Own 9 1 (.slice (some ⟨lb, 0, none⟩) l.length c) l.length (l.map strV)) _ from by unfold OZ; exact Tk.here) fun hcap => ?_
  refine go ?_
  intro b4
  refine go ?_
  refine WO.sv rfl ?_
  refine SV.mkMap (enc := strV) fun b5 => ?_
  refine go ?_
  refine WO.callE (vs := []) Tryd.func25 rfl rfl rfl rfl (sc_verbs _) ?_
  rintro v M ⟨vb, rfl, rfl⟩
  refine go ?_
  refine W.loopS 8573157568 rfl (fun i : Nat => [(24, .int .i64 (i : Int))]) (fun i => MapH b5 strV (kinds i) :: OZ (some ⟨vb, 0, none⟩) 13 verbL :: pts b4 (.cells [ltV lb c l.length 0].toArray 62) :: OZ (some ⟨lb, 0, none⟩) c l :: pts b2 (.cells (acL 0 [] [] (.slice none 0 0)).toArray 24) :: L) (fun i => i ≤ 13) (fun i => 13 - i) 0 ⟨rfl, trivial⟩ (Nat.zero_le _) (Ent.app ent) ?_
  intro i bg hi
  by_cases h1 : i < 13
  · have xv : (verbL.map strV)[i]? = some (strV (verbL.getD i [])) := by
      rw [List.getElem?_map, List.getD_eq_getElem?_getD, List.getElem?_eq_getElem (show i < verbL.length from h1)]; rfl
    have hks := kinds_set i h1
    refine go ?_
    refine WO.sv rfl ?_
    refine SV.loadR (v := strV (verbL.getD i [])) i rfl (show RdS 1 (some ⟨vb, 0, none⟩) 13 (verbL.map strV) _ from by unfold OZ; exact RdS.ownS (Tk.there Tk.here) (fun _ => ⟨vb, rfl⟩) rfl) (by omega) xv ?_
    refine go ?_
    refine WO.sv rfl ?_
    refine SV.mapPut (enc := strV) (i := verbL.getD i []) (v := .int .i64 (i : Int)) (l := kinds i) rfl rfl rfl rfl Tk.here ?_
    rw [hks]
    refine go ?_
    exact ⟨i + 1, ⟨rfl, trivial⟩, rfl, by omega, by omega, Ent.app ent⟩
  obtain rfl : i = 13 := by omega
  have x0 : (l.map strV)[0]? = some (strV (l.getD 0 [])) := by
    rw [List.getElem?_map, List.getD_eq_getElem?_getD, List.getElem?_eq_getElem hpos]; rfl
  obtain ⟨k, f0, hk, hlk, hf1, hf0⟩ : ∃ (k : Nat) (f0 : Bool), k < 13 ∧ Value.tuple #[(mget (kinds 13) (l.getD 0 [])).getD (.int .i64 0), .bool (mget (kinds 13) (l.getD 0 [])).isSome] = .tuple #[.int .i64 (k : Int), .bool f0] ∧ (f0 = true → l.getD 0 [] = verbL.getD k []) ∧ (f0 = false → Ac.Bad l) := by
    rcases kinds_get (l.getD 0 []) with ⟨k, q1, q2, q3⟩ | ⟨q1, q2⟩
    · exact ⟨k, true, q1, by rw [q2]; rfl, fun _ => q3, fun z => (by cases z)⟩
    · refine ⟨0, false, by decide, by rw [q1]; rfl, fun z => (by cases z), fun _ A hA e => q2 ?_⟩
      cases l with
      | nil => exact absurd rfl hne
      | cons w r => exact Ac.verb_of hA e
  refine go ?_
  refine WO.sv rfl ?_
  refine SV.loadR (v := strV (l.getD 0 [])) 0 rfl (show RdS 1 (some ⟨lb, 0, none⟩) l.length (l.map strV) _ from by unfold OZ; exact RdS.ownS (Tk.there (Tk.there (Tk.there Tk.here))) (fun _ => ⟨lb, rfl⟩) (by simp)) (by omega) x0 ?_
  refine WO.sv rfl ?_
  refine SV.lookup2 (enc := strV) (i := l.getD 0 []) (l := kinds 13) (z := .int .i64 0) rfl rfl rfl (by kernel_rfl) Tk.here ?_
  rw [hlk]
  refine go ?_
  intro b9
  refine go ?_
  refine WO.sv rfl ?_
  refine SV.makeFunc (cs := [.pointer (some ⟨b4, 0, none⟩), .pointer (some ⟨b9, 0, none⟩)]) rfl ?_
  refine go ?_
  intro b10
  refine go ?_
  refine WO.sv rfl ?_
  refine SV.makeFunc (cs := [.pointer (some ⟨b10, 0, none⟩), .pointer (some ⟨b9, 0, none⟩)]) rfl ?_
  refine go ?_
  intro b12
  refine go ?_
  refine WO.ent (show Ent _ (pts b10 (.cells [nxV b4 b9].toArray 36) :: pts b4 (.cells [ltV lb c l.length 0].toArray 62) :: pts b9 (.cells [.bool f0].toArray 4) :: pts b12 (.cells (acL k [0, 0, 0, 0, 0] [[], []] (.slice none 0 0)).toArray 24) :: OZ (some ⟨lb, 0, none⟩) c l :: pts b2 (.cells (acL 0 [] [] (.slice none 0 0)).toArray 24) :: L) from ent) ?_
  refine WO.callE (vs := [.pointer (some ⟨b12, 0, none⟩)]) Tryd.func26 rfl rfl rfl rfl (sc_parts b12 k [0, 0, 0, 0, 0] [[], []] (.slice none 0 0) _ inferInstance) ?_
  rintro v M ⟨fa, fc, rfl, sfa, rfl⟩
  have hpx := pidx_ok k
  have hn2 := ntx_le k
  refine go ?_
  refine W.loopS 71916856549588992 rfl (fun q : Nat × Nat × Bool × List Int => [(47, .int .i64 (q.1 : Int))]) (fun q => OP fa fc b12 (pidx k) :: pts b10 (.cells [nxV b4 b9].toArray 36) :: pts b4 (.cells [ltV lb c l.length q.2.1].toArray 62) :: pts b9 (.cells [.bool q.2.2.1].toArray 4) :: pts b12 (.cells (acL k q.2.2.2 [[], []] (.slice none 0 0)).toArray 24) :: OZ (some ⟨lb, 0, none⟩) c l :: pts b2 (.cells (acL 0 [] [] (.slice none 0 0)).toArray 24) :: L)
    (fun q => q.1 ≤ (pidx k).length ∧ PI1 l k q.1 q.2.1 q.2.2.1 q.2.2.2) (fun q => (pidx k).length - q.1) (0, 0, f0, [0, 0, 0, 0, 0]) ⟨rfl, trivial⟩ ⟨Nat.zero_le _, ?_⟩ (Ent.app ent) ?_
  · refine ⟨hpos, rfl, fun j _ => ?_, fun j => ?_, fun z => ⟨rfl, ?_⟩, hf0⟩
    · match j with
      | 0 => rfl
      | 1 => rfl
      | 2 => rfl
      | 3 => rfl
      | 4 => rfl
      | _ + 5 => rfl
    · match j with
      | 0 => exact (show okN 0 by decide)
      | 1 => exact (show okN 0 by decide)
      | 2 => exact (show okN 0 by decide)
      | 3 => exact (show okN 0 by decide)
      | 4 => exact (show okN 0 by decide)
      | _ + 5 => exact (show okN 0 by decide)
    · dsimp only
      rw [List.take_zero, ← hf1 z, List.take_add_one, List.getD_eq_getElem?_getD, List.getElem?_eq_getElem hpos]; rfl
  rintro ⟨i, p, fine, ns⟩ bg1 ⟨hi, hI⟩
  dsimp only at hi hI ⊢
  have hpl := hI.hp
  by_cases h2 : i < (pidx k).length
  · have hj5 := hpx.2.1 _ (List.getElem_mem h2)
    have p1 := ptV_get b12 1 (pidx k) i h2
    have hlack := fun q n hn => hI.lack (n := n) hk h2 q hn
    have hstep := fun q n ok hn => hI.step (n := n) (ok := ok) hk h2 q hn
    have hnl := hI.hn
    have rdf : ∀ X, RdS 1 fa (pidx k).length (ptV b12 1 (pidx k)) (OP fa fc b12 (pidx k) :: X) := fun X => by unfold OP; exact RdS.ownS Tk.here sfa (by simp [ptV])
    obtain ⟨fb, rfl⟩ := sfa (by omega)
    generalize (pidx k)[i] = j at *
    refine go ?_
    refine WO.sv rfl ?_
    refine SV.loadR (v := .pointer (some ⟨b12, 1 + j, none⟩)) i rfl (rdf _) (by omega) p1 ?_
    refine go ?_
    refine WO.callW (cs := [.pointer (some ⟨b10, 0, none⟩), .pointer (some ⟨b9, 0, none⟩)]) (vs := []) rfl Tryd.func38 rfl rfl rfl rfl (TriE.ent ent (sc_take b4 b9 b10 lb c p fine l (OP (some ⟨fb, 0, none⟩) fc b12 (pidx k) :: pts b12 (.cells (acL k ns [[], []] (.slice none 0 0)).toArray 24) :: OZ (some ⟨lb, 0, none⟩) c l :: pts b2 (.cells (acL 0 [] [] (.slice none 0 0)).toArray 24) :: L) hpl hcap (by omega) hw (by unfold OZ; exact RdS.ownS (Tk.there (Tk.there Tk.here)) (fun _ => ⟨lb, rfl⟩) (by simp)))) ?_
    rintro v M (⟨e1, ⟨n, hn, rfl⟩, rfl⟩ | ⟨e1, n, ok, hn, rfl, rfl⟩)
    · refine go ?_
      refine WO.sv rfl ?_
      refine SV.storeS (v := .int .i64 (n : Int)) rfl rfl rfl (.inl (Nat.le_refl _)) (by rw [acL_len]; omega) ?_
      rw [acL_set k _ _ _ hnl hj5]
      refine go ?_
      exact ⟨(i + 1, p, false, ns.set j n), ⟨rfl, trivial⟩, rfl, ⟨h2, hlack e1 n hn⟩, by dsimp only; omega, Ent.app ent⟩
    · refine go ?_
      refine WO.sv rfl ?_
      refine SV.storeS (v := .int .i64 (n : Int)) rfl rfl rfl (.inl (Nat.le_refl _)) (by rw [acL_len]; omega) ?_
      rw [acL_set k _ _ _ hnl hj5]
      refine go ?_
      exact ⟨(i + 1, p + 1, fine && ok, ns.set j n), ⟨rfl, trivial⟩, rfl, ⟨h2, hstep e1 n ok hn⟩, by dsimp only; omega, Ent.app ent⟩
  obtain rfl : i = (pidx k).length := by omega
  have hI2 := hI.done
  have hnok := hI.ok
  have hnz := hI.hz
  have hnl := hI.hn
  rw [List.take_length] at hnz
  refine go ?_
  refine WO.callE (vs := [.pointer (some ⟨b12, 0, none⟩)]) Tryd.func28 rfl rfl rfl rfl (sc_texts b12 k ns [[], []] (.slice none 0 0) _ inferInstance) ?_
  rintro v M ⟨ta, tc, rfl, sta, rfl⟩
  refine go ?_
  refine W.loopS 75557575495538172166144 rfl (fun q : Nat × Nat × Bool × List BL => [(58, .int .i64 (q.1 : Int))]) (fun q => OQ ta tc b12 (List.range (ntx k)) :: pts b10 (.cells [nxV b4 b9].toArray 36) :: pts b4 (.cells [ltV lb c l.length q.2.1].toArray 62) :: pts b9 (.cells [.bool q.2.2.1].toArray 4) :: pts b12 (.cells (acL k ns q.2.2.2 (.slice none 0 0)).toArray 24) :: OZ (some ⟨lb, 0, none⟩) c l :: pts b2 (.cells (acL 0 [] [] (.slice none 0 0)).toArray 24) :: L)
    (fun q => q.1 ≤ ntx k ∧ PI2 l k ns q.1 q.2.1 q.2.2.1 q.2.2.2) (fun q => ntx k - q.1) (0, p, fine, [[], []]) ⟨rfl, trivial⟩ ⟨Nat.zero_le _, hI2⟩ (Ent.app ent) ?_
  clear hI2 hI hpl
  rintro ⟨j, p, fine, ts⟩ bg2 ⟨hj, hI⟩
  dsimp only at hj hI ⊢
  have hpl := hI.hp
  have htl := hI.hn
  have rdl : ∀ A B C D E X, RdS 1 (some ⟨lb, 0, none⟩) l.length (l.map strV) (A :: B :: C :: D :: E :: OZ (some ⟨lb, 0, none⟩) c l :: X) := fun A B C D E X => by unfold OZ; exact RdS.ownS (Tk.there (Tk.there (Tk.there (Tk.there (Tk.there Tk.here))))) (fun _ => ⟨lb, rfl⟩) (by simp)
  by_cases h3 : j < ntx k
  · have hj2 : j < 2 := by omega
    have p1 := ptV_get b12 6 (List.range (ntx k)) j (by rw [List.length_range]; exact h3)
    rw [List.getElem_range] at p1
    have rdf : ∀ X, RdS 1 ta (ntx k) (ptV b12 6 (List.range (ntx k))) (OQ ta tc b12 (List.range (ntx k)) :: X) := fun X => by unfold OQ; rw [List.length_range]; exact RdS.ownS Tk.here sta (by simp [ptV])
    obtain ⟨tb, rfl⟩ := sta (by omega)
    refine go ?_
    refine WO.sv rfl ?_
    refine SV.loadR (v := .pointer (some ⟨b12, 6 + j, none⟩)) j rfl (rdf _) (by omega) p1 ?_
    refine go ?_
    refine WO.callW (cs := [.pointer (some ⟨b4, 0, none⟩), .pointer (some ⟨b9, 0, none⟩)]) (vs := []) rfl Tryd.func37 rfl rfl rfl rfl (TriE.ent ent (sc_next b4 b9 lb c p fine l (OQ (some ⟨tb, 0, none⟩) tc b12 (List.range (ntx k)) :: pts b10 (.cells [nxV b4 b9].toArray 36) :: pts b12 (.cells (acL k ns ts (.slice none 0 0)).toArray 24) :: OZ (some ⟨lb, 0, none⟩) c l :: pts b2 (.cells (acL 0 [] [] (.slice none 0 0)).toArray 24) :: L) hpl hcap (by omega) (by unfold OZ; exact RdS.ownS (Tk.there (Tk.there (Tk.there Tk.here))) (fun _ => ⟨lb, rfl⟩) (by simp)))) ?_
    rintro v M (⟨e1, rfl, rfl⟩ | ⟨e1, rfl, rfl⟩)
    · refine go ?_
      refine WO.callE (vs := [strV ([])]) Tryd.func40 rfl rfl rfl rfl (sc_bytes _ _ (by decide)) ?_
      rintro v M ⟨⟨t, ok, rfl, ht⟩, rfl⟩
      refine go ?_
      refine W.drawP #[0, 0, 0, 4, 12, 28, 3, 79, 255] rfl (by kernel_rfl) (by kernel_rfl) (by kernel_rfl) ?_
      refine DP.n (v := .pointer (some ⟨b12, 6 + j, none⟩)) rfl rfl (SV.move rfl eqq) ?_
      refine DP.n (v := strV t) rfl rfl (SV.move rfl eqq) ?_
      refine DP.q (v := .bool false) rfl (by kernel_rfl) rfl (SV.load (l := [.bool false]) (off := 0) rfl rfl eqq) ?_
      refine DP.n (v := .bool false) rfl rfl (SV.move rfl eqq) ?_
      refine DP.off rfl ?_
      refine DP.n (v := .bool (false)) rfl rfl (SV.pick rfl rfl eqq) ?_
      refine DP.n (v := .pointer (some ⟨b12, 6 + j, none⟩)) rfl rfl (SV.nilCheck rfl eqq) ?_
      refine DP.act rfl rfl rfl ?_
      refine SV.storeS (v := strV t) rfl rfl rfl (.inl (Nat.le_refl _)) (by rw [acL_len]; omega) ?_
      rw [acL_setT k _ _ _ htl hj2]
      refine DP.act rfl rfl rfl ?_
      refine SV.storeS (v := .bool (false)) rfl rfl rfl (.inl (Nat.le_refl _)) (by simp) ?_
      refine DP.nil ?_
      refine ⟨OQ (some ⟨tb, 0, none⟩) tc b12 (List.range (ntx k)) :: pts b10 (.cells [nxV b4 b9].toArray 36) :: pts b4 (.cells [ltV lb c l.length p].toArray 62) :: pts b9 (.cells [.bool (false)].toArray 4) :: pts b12 (.cells (acL k ns (ts.set j t) (.slice none 0 0)).toArray 24) :: OZ (some ⟨lb, 0, none⟩) c l :: pts b2 (.cells (acL 0 [] [] (.slice none 0 0)).toArray 24) :: L, ent, ?_⟩
      refine go ?_
      exact ⟨(j + 1, p, false, ts.set j t), ⟨rfl, trivial⟩, rfl, ⟨h3, hI.lack hk h3 e1 t (Nat.le_trans ht.1 (Nat.zero_le _))⟩, by dsimp only; omega, Ent.app ent⟩
    · have hwl : (l.getD (p + 1) []).length ≤ 100000 := by
        rw [List.getD_eq_getElem?_getD, List.getElem?_eq_getElem e1]; exact hw _ (List.getElem_mem e1)
      cases fine with
      | false =>
        refine go ?_
        refine WO.callE (vs := [strV (l.getD (p + 1) [])]) Tryd.func40 rfl rfl rfl rfl (sc_bytes _ _ hwl) ?_
        rintro v M ⟨⟨t, ok, rfl, ht⟩, rfl⟩
        refine go ?_
        refine W.drawP #[0, 0, 0, 4, 12, 28, 3, 79, 255] rfl (by kernel_rfl) (by kernel_rfl) (by kernel_rfl) ?_
        refine DP.n (v := .pointer (some ⟨b12, 6 + j, none⟩)) rfl rfl (SV.move rfl eqq) ?_
        refine DP.n (v := strV t) rfl rfl (SV.move rfl eqq) ?_
        refine DP.q (v := .bool false) rfl (by kernel_rfl) rfl (SV.load (l := [.bool false]) (off := 0) rfl rfl eqq) ?_
        refine DP.n (v := .bool false) rfl rfl (SV.move rfl eqq) ?_
        refine DP.off rfl ?_
        refine DP.n (v := .bool (false)) rfl rfl (SV.pick rfl rfl eqq) ?_
        refine DP.n (v := .pointer (some ⟨b12, 6 + j, none⟩)) rfl rfl (SV.nilCheck rfl eqq) ?_
        refine DP.act rfl rfl rfl ?_
        refine SV.storeS (v := strV t) rfl rfl rfl (.inl (Nat.le_refl _)) (by rw [acL_len]; omega) ?_
        rw [acL_setT k _ _ _ htl hj2]
        refine DP.act rfl rfl rfl ?_
        refine SV.storeS (v := .bool (false)) rfl rfl rfl (.inl (Nat.le_refl _)) (by simp) ?_
        refine DP.nil ?_
        refine ⟨OQ (some ⟨tb, 0, none⟩) tc b12 (List.range (ntx k)) :: pts b10 (.cells [nxV b4 b9].toArray 36) :: pts b4 (.cells [ltV lb c l.length (p + 1)].toArray 62) :: pts b9 (.cells [.bool (false)].toArray 4) :: pts b12 (.cells (acL k ns (ts.set j t) (.slice none 0 0)).toArray 24) :: OZ (some ⟨lb, 0, none⟩) c l :: pts b2 (.cells (acL 0 [] [] (.slice none 0 0)).toArray 24) :: L, ent, ?_⟩
        refine go ?_
        exact ⟨(j + 1, p + 1, false, ts.set j t), ⟨rfl, trivial⟩, rfl, ⟨h3, hI.step hk h3 e1 ht (by have := ht.1; omega)⟩, by dsimp only; omega, Ent.app ent⟩
      | true =>
        refine go ?_
        refine WO.callE (vs := [strV (l.getD (p + 1) [])]) Tryd.func40 rfl rfl rfl rfl (sc_bytes _ _ hwl) ?_
        rintro v M ⟨⟨t, ok, rfl, ht⟩, rfl⟩
        refine go ?_
        refine W.drawP #[0, 0, 0, 4, 12, 28, 3, 79, 255] rfl (by kernel_rfl) (by kernel_rfl) (by kernel_rfl) ?_
        refine DP.n (v := .pointer (some ⟨b12, 6 + j, none⟩)) rfl rfl (SV.move rfl eqq) ?_
        refine DP.n (v := strV t) rfl rfl (SV.move rfl eqq) ?_
        refine DP.q (v := .bool true) rfl (by kernel_rfl) rfl (SV.load (l := [.bool true]) (off := 0) rfl rfl eqq) ?_
        refine DP.n (v := .bool true) rfl rfl (SV.move rfl eqq) ?_
        refine DP.n (v := .bool ok) rfl rfl (SV.move rfl eqq) ?_
        refine DP.n (v := .bool (ok)) rfl rfl (SV.pick rfl rfl eqq) ?_
        refine DP.n (v := .pointer (some ⟨b12, 6 + j, none⟩)) rfl rfl (SV.nilCheck rfl eqq) ?_
        refine DP.act rfl rfl rfl ?_
        refine SV.storeS (v := strV t) rfl rfl rfl (.inl (Nat.le_refl _)) (by rw [acL_len]; omega) ?_
        rw [acL_setT k _ _ _ htl hj2]
        refine DP.act rfl rfl rfl ?_
        refine SV.storeS (v := .bool (ok)) rfl rfl rfl (.inl (Nat.le_refl _)) (by simp) ?_
        refine DP.nil ?_
        refine ⟨OQ (some ⟨tb, 0, none⟩) tc b12 (List.range (ntx k)) :: pts b10 (.cells [nxV b4 b9].toArray 36) :: pts b4 (.cells [ltV lb c l.length (p + 1)].toArray 62) :: pts b9 (.cells [.bool (ok)].toArray 4) :: pts b12 (.cells (acL k ns (ts.set j t) (.slice none 0 0)).toArray 24) :: OZ (some ⟨lb, 0, none⟩) c l :: pts b2 (.cells (acL 0 [] [] (.slice none 0 0)).toArray 24) :: L, ent, ?_⟩
        refine go ?_
        exact ⟨(j + 1, p + 1, ok, ts.set j t), ⟨rfl, trivial⟩, rfl, ⟨h3, hI.step hk h3 e1 ht (by have := ht.1; omega)⟩, by dsimp only; omega, Ent.app ent⟩
  obtain rfl : j = ntx k := by omega
  have hI3 := hI.done
  have htz := hI.hz
  have htlen := hI.len
  refine go ?_
  refine W.loopS 19806965070702358484062568448 rfl (fun q : Nat × Bool × Option Addr × Nat × List Int => []) (fun q => OK2 q.2.2.1 q.2.2.2.1 q.2.2.2.2 :: pts b10 (.cells [nxV b4 b9].toArray 36) :: pts b4 (.cells [ltV lb c l.length (q.1)].toArray 62) :: pts b9 (.cells [.bool q.2.1].toArray 4) :: pts b12 (.cells (acL k ns ts (.slice q.2.2.1 q.2.2.2.2.length q.2.2.2.1)).toArray 24) :: OZ (some ⟨lb, 0, none⟩) c l :: pts b2 (.cells (acL 0 [] [] (.slice none 0 0)).toArray 24) :: L)
    (fun q => PI3 l k ns ts q.1 q.2.1 q.2.2.2.2 ∧ SomeA q.2.2.1 q.2.2.2.2.length) (fun q => l.length - q.1) (p, fine, none, 0, []) trivial ⟨hI3, fun z => absurd rfl z⟩ (Ent.app (by dsimp only; unfold OK2; exact Ent.ownNil ent)) ?_
  clear hI3 hI hpl
  rintro ⟨p, fine, ya, yc, ks⟩ bg3 ⟨hI, sya⟩
  dsimp only at hI sya ⊢
  have hpl := hI.hp
  have hkl := hI.le
  by_cases hgo : k = 12 ∧ fine = true ∧ p + 1 < l.length
  · obtain ⟨rfl, rfl, e1⟩ := hgo
    refine go ?_
    refine W.drawC 7 #[0, 1, 0, 4, 12, 31, 63, 127] [pts b12 (.cells (acL ((12 : Nat) : Int) ns ts (.slice ya ks.length yc)).toArray 24)] (OK2 ya yc ks :: pts b10 (.cells [nxV b4 b9].toArray 36) :: pts b4 (.cells [ltV lb c l.length (p)].toArray 62) :: pts b9 (.cells [.bool true].toArray 4) :: OZ (some ⟨lb, 0, none⟩) c l :: pts b2 (.cells (acL 0 [] [] (.slice none 0 0)).toArray 24) :: L) rfl (by kernel_rfl) (by kernel_rfl) (by kernel_rfl) (by kernel_rfl) rfl rfl rfl ent ?_
    refine go ?_
    refine DB.callW (cs := [.pointer (some ⟨b10, 0, none⟩), .pointer (some ⟨b9, 0, none⟩)]) (vs := []) rfl Tryd.func38 rfl rfl rfl rfl hl hl (TriE.ent ent (sc_take b4 b9 b10 lb c p true l (pts b12 (.cells (acL ((12 : Nat) : Int) ns ts (.slice ya ks.length yc)).toArray 24) :: OK2 ya yc ks :: OZ (some ⟨lb, 0, none⟩) c l :: pts b2 (.cells (acL 0 [] [] (.slice none 0 0)).toArray 24) :: L) hpl hcap (by omega) hw (by unfold OZ; exact RdS.ownS (Tk.there (Tk.there Tk.here)) (fun _ => ⟨lb, rfl⟩) (by simp)))) ?_
    rintro v M (⟨e2, _, rfl⟩ | ⟨e2, n, ok, hn, rfl, rfl⟩)
    · omega
    refine ⟨[], OK2 ya yc ks :: pts b10 (.cells [nxV b4 b9].toArray 36) :: pts b4 (.cells [ltV lb c l.length (p + 1)].toArray 62) :: pts b9 (.cells [.bool (true && ok)].toArray 4) :: OZ (some ⟨lb, 0, none⟩) c l :: pts b2 (.cells (acL 0 [] [] (.slice none 0 0)).toArray 24) :: L, ent, ?_⟩
    refine go ?_
    refine DB.lit rfl rfl rfl parts rfl nl rfl rfl ?_
    intro b3
    refine go ?_
    refine DB.v rfl rfl rfl hl hl ?_
    unfold OK2
    refine SV.append rfl rfl rfl tk (RdS.src (RdS.all (sz := 1) (n := 1) rfl).cons) rfl rfl (by omega) rfl ?_
    intro a' c' ha'
    have hst := hI.step e1 hn
    refine ⟨[], Own 3 1 (.slice a' (ks.length + 1) c') (ks.length + 1) (zv ks ++ [Value.int .i64 (n : Int)]) :: pts b10 (.cells [nxV b4 b9].toArray 36) :: pts b4 (.cells [ltV lb c l.length (p + 1)].toArray 62) :: pts b9 (.cells [.bool (true && ok)].toArray 4) :: OZ (some ⟨lb, 0, none⟩) c l :: pts b2 (.cells (acL 0 [] [] (.slice none 0 0)).toArray 24) :: L, ent, ?_⟩
    refine go ?_
    refine ⟨pts b12 (.cells (acL ((12 : Nat) : Int) ns ts (.slice ya ks.length yc)).toArray 24) :: Own 3 1 (.slice a' (ks.length + 1) c') (ks.length + 1) (zv ks ++ [Value.int .i64 (n : Int)]) :: pts b10 (.cells [nxV b4 b9].toArray 36) :: pts b4 (.cells [ltV lb c l.length (p + 1)].toArray 62) :: pts b9 (.cells [.bool (true && ok)].toArray 4) :: OZ (some ⟨lb, 0, none⟩) c l :: pts b2 (.cells (acL 0 [] [] (.slice none 0 0)).toArray 24) :: L, ent, OW.sv ?_⟩
    refine SV.storeS (v := .slice a' (ks.length + 1) c') rfl rfl rfl (.inl (Nat.le_refl _)) (by rw [acL_len]; decide) ?_
    refine ⟨_, Ent.refl _, ?_⟩
    refine go ?_
    have hkn : (ks ++ [(n : Int)]).length = ks.length + 1 := by rw [List.length_append]; rfl
    refine ⟨(p + 1, ok, a', c', ks ++ [(n : Int)]), trivial, rfl, ⟨hst, by dsimp only; rw [hkn]; exact ha'⟩, by dsimp only; omega, ?_⟩
    dsimp only
    rw [hkn, show zv (ks ++ [(n : Int)]) = zv ks ++ [Value.int .i64 (n : Int)] by simp [zv]]
    exact Ent.app ent
  cases fine with
  | false =>
    by_cases h12 : (k : Int) = 12
    · refine go ?_
      exact ⟨rfl, [_, _], ⟨Res.cell rfl le0 nl, Res.tmp rfl, trivial⟩, L, ent, .inr ⟨rfl, hbt (hI.no rfl), rfl⟩⟩
    · refine go ?_
      exact ⟨rfl, [_, _], ⟨Res.cell rfl le0 nl, Res.tmp rfl, trivial⟩, L, ent, .inr ⟨rfl, hbt (hI.no rfl), rfl⟩⟩
  | true =>
  by_cases e1 : p + 1 < l.length
  · have h12 : k ≠ 12 := fun z => hgo ⟨z, rfl, e1⟩
    have h12' : (k : Int) ≠ 12 := by omega
    refine go ?_
    exact ⟨rfl, [_, _], ⟨Res.cell rfl le0 nl, Res.tmp rfl, trivial⟩, L, ent, .inr ⟨rfl, hbt (hI.more hk h12 e1), rfl⟩⟩
  have e2 : p + 1 = l.length := by omega
  have hall := hI.all hk e2
  have hB : Ac.bare ⟨k, ns, ts, ks⟩ := ⟨hnl, htl, htz, fun z => hI.off (fun y => z (by subst y; rfl))⟩
  have htb : ∀ j, (ts.getD j []).length ≤ 1000000000 := fun j => by have := htlen j; omega
  have hclean : Ac.clean ⟨k, ns, ts, ks⟩ = ⟨k, ns, ts, ks⟩ := Ac.clean_self hnl hnz htl htz hB.2.2.2
  have rdk : ∀ X, RdS 1 ya ks.length (zv ks) (OK2 ya yc ks :: X) := fun X => by unfold OK2; exact RdS.ownS Tk.here sya (zv_len _)
  have fin : ∀ t : Bool, (t = true ↔ Ac.right ⟨k, ns, ts, ks⟩) → t = true ∨ t = false := fun t _ => by cases t <;> simp
  by_cases h12 : (k : Int) = 12
  · refine go ?_
    refine WO.callE (vs := [acV ⟨k, ns, ts, ks⟩ ya yc]) Tryd.func10 rfl rfl rfl rfl (sc_Right ⟨k, ns, ts, ks⟩ ya yc _ (by dsimp only; omega) htb (rdk _)) ?_
    rintro v M ⟨⟨t, rfl, ht⟩, rfl⟩
    cases t with
    | true =>
      refine go ?_
      exact ⟨rfl, [_, _], ⟨Res.cell rfl le0 nl, Res.tmp rfl, trivial⟩, OK2 ya yc ks :: L, ent, .inl ⟨⟨k, ns, ts, ks⟩, ya, yc, rfl, ht.1 rfl, hB, hclean, by unfold Ac.text; rw [hall]; exact hjn, sya, rfl⟩⟩
    | false =>
      refine go ?_
      exact ⟨rfl, [_, _], ⟨Res.cell rfl le0 nl, Res.tmp rfl, trivial⟩, L, ent, .inr ⟨rfl, hbt (hI.wrong hk hnok e2 (fun z => by cases ht.2 z)), rfl⟩⟩
  · refine go ?_
    refine WO.callE (vs := [acV ⟨k, ns, ts, ks⟩ ya yc]) Tryd.func10 rfl rfl rfl rfl (sc_Right ⟨k, ns, ts, ks⟩ ya yc _ (by dsimp only; omega) htb (rdk _)) ?_
    rintro v M ⟨⟨t, rfl, ht⟩, rfl⟩
    cases t with
    | true =>
      refine go ?_
      exact ⟨rfl, [_, _], ⟨Res.cell rfl le0 nl, Res.tmp rfl, trivial⟩, OK2 ya yc ks :: L, ent, .inl ⟨⟨k, ns, ts, ks⟩, ya, yc, rfl, ht.1 rfl, hB, hclean, by unfold Ac.text; rw [hall]; exact hjn, sya, rfl⟩⟩
    | false =>
      refine go ?_
      exact ⟨rfl, [_, _], ⟨Res.cell rfl le0 nl, Res.tmp rfl, trivial⟩, L, ent, .inr ⟨rfl, hbt (hI.wrong hk hnok e2 (fun z => by cases ht.2 z)), rfl⟩⟩
end Go.SL

/- Layer 32 (script): the document's words, walked. -/
namespace Go.SL
open Go.Proofs
set_option linter.unusedVariables false
set_option linter.unusedSimpArgs false
set_option linter.unusedSectionVars false
set_option maxRecDepth 10000
set_option maxHeartbeats 4000000
attribute [local irreducible] W WO SV OW SW Tri Ent Tk Has Src SrcK DA DB DP RdS Own OwnT MapH

def decL : BL := [48, 49, 50, 51, 52, 53, 54, 55, 56, 57]
theorem decL_cut : ∀ k : Fin 10, (decL.take (k.val + 1)).drop k.val = [dgt k.val] := by decide
theorem hexL_cut : ∀ k : Fin 16, (hexL.take (k.val + 1)).drop k.val = [hxc k.val] := by decide
theorem rs_digits : ∀ (n : Nat) (L : List HP), n ≤ 1000000000000 → TriE Tryd.prog 42 #[.int .u64 n] (fun v M => v = strV (dg n) ∧ M = L) L := by
  intro n
  induction n using Nat.strongRecOn with
  | ind n ih =>
    intro L hn
    have hd10 : decL.length = 10 := rfl
    refine Tri.of (N := 18) (args := [.int .u64 n]) Tryd.func42 rfl rfl rfl ?_
    refine go ?_
    refine WO.sv rfl ?_
    refine SV.cutStr (s := decL) (l := n % 10) (h := n % 10 + 1) (s' := [dgt (n % 10)]) rfl (cutAt.of rfl (by omega)) (cutAt.of rfl (by omega)) (by omega) (by omega) (decL_cut ⟨n % 10, by omega⟩) ?_
    by_cases h : n < 10
    · refine go ?_
      exact ⟨rfl, [_], ⟨Res.tmp rfl, trivial⟩, L, ent, by rw [dg_lt h, show n % 10 = n by omega]; rfl, rfl⟩
    · refine go ?_
      refine WO.callE (vs := [.int .u64 ((n / 10 : Nat) : Int)]) Tryd.func42 rfl rfl rfl rfl (ih (n / 10) (by omega) L (by omega)) ?_
      rintro v M ⟨rfl, rfl⟩
      have h1 : (dg (n / 10)).length ≤ 20 := dg_len20 (by omega)
      refine go ?_
      refine WO.sv rfl ?_
      refine SV.concat rfl rfl (by simp; omega) ?_
      refine go ?_
      exact ⟨rfl, [_], ⟨Res.tmp rfl, trivial⟩, _, ent, by rw [dg_ge h]; rfl, rfl⟩
theorem rs_Verb (k : Int) (L : List HP) (hk : 0 ≤ k ∧ k ≤ 12) : TriE Tryd.prog 41 #[.int .i64 k] (fun v M => v = strV (verbL.getD k.toNat []) ∧ M = L) L := by
  refine Tri.of (N := 30) (args := [.int .i64 k]) Tryd.func41 rfl rfl rfl ?_
  by_cases h0 : k = 0
  · subst h0
    refine go ?_
    exact ⟨rfl, [_], ⟨Res.tmp rfl, trivial⟩, L, ent, rfl, rfl⟩
  by_cases h1 : k = 1
  · subst h1
    refine go ?_
    exact ⟨rfl, [_], ⟨Res.tmp rfl, trivial⟩, L, ent, rfl, rfl⟩
  by_cases h2 : k = 2
  · subst h2
    refine go ?_
    exact ⟨rfl, [_], ⟨Res.tmp rfl, trivial⟩, L, ent, rfl, rfl⟩
  by_cases h3 : k = 3
  · subst h3
    refine go ?_
    exact ⟨rfl, [_], ⟨Res.tmp rfl, trivial⟩, L, ent, rfl, rfl⟩
  by_cases h4 : k = 4
  · subst h4
    refine go ?_
    exact ⟨rfl, [_], ⟨Res.tmp rfl, trivial⟩, L, ent, rfl, rfl⟩
  by_cases h5 : k = 5
  · subst h5
    refine go ?_
    exact ⟨rfl, [_], ⟨Res.tmp rfl, trivial⟩, L, ent, rfl, rfl⟩
  by_cases h6 : k = 6
  · subst h6
    refine go ?_
    exact ⟨rfl, [_], ⟨Res.tmp rfl, trivial⟩, L, ent, rfl, rfl⟩
  by_cases h7 : k = 7
  · subst h7
    refine go ?_
    exact ⟨rfl, [_], ⟨Res.tmp rfl, trivial⟩, L, ent, rfl, rfl⟩
  by_cases h8 : k = 8
  · subst h8
    refine go ?_
    exact ⟨rfl, [_], ⟨Res.tmp rfl, trivial⟩, L, ent, rfl, rfl⟩
  by_cases h9 : k = 9
  · subst h9
    refine go ?_
    exact ⟨rfl, [_], ⟨Res.tmp rfl, trivial⟩, L, ent, rfl, rfl⟩
  by_cases h10 : k = 10
  · subst h10
    refine go ?_
    exact ⟨rfl, [_], ⟨Res.tmp rfl, trivial⟩, L, ent, rfl, rfl⟩
  by_cases h11 : k = 11
  · subst h11
    refine go ?_
    exact ⟨rfl, [_], ⟨Res.tmp rfl, trivial⟩, L, ent, rfl, rfl⟩
  by_cases h12 : k = 12
  · subst h12
    refine go ?_
    exact ⟨rfl, [_], ⟨Res.tmp rfl, trivial⟩, L, ent, rfl, rfl⟩
  omega
def pidI (k : Int) : List Int := (pidx k).map fun j : Nat => (j : Int)
theorem rs_Has (k : Int) (L : List HP) : TriE Tryd.prog 35 #[.int .i64 k] (fun v M => ∃ a c, v = .slice a (pidx k).length c ∧ SomeA a (pidx k).length ∧ M = OK2 a c (pidI k) :: L) L := by
  refine Tri.of (N := 32) (args := [.int .i64 k]) Tryd.func35 rfl rfl rfl ?_
  by_cases h0 : k = 0
  · subst h0
    refine go ?_
    refine WO.sv rfl ?_
    refine SV.lit rfl rfl rfl parts rfl nl ?_
    intro x
    refine go ?_
    exact ⟨rfl, [_], ⟨Res.tmp rfl, trivial⟩, OK2 (some ⟨x, 0, none⟩) 2 [0, 3] :: L, by unfold OK2; exact Own.ofPts rfl ent, some ⟨x, 0, none⟩, 2, rfl, fun _ => ⟨x, rfl⟩, rfl⟩
  by_cases h1 : k = 1
  · subst h1
    refine go ?_
    refine WO.sv rfl ?_
    refine SV.lit rfl rfl rfl parts rfl nl ?_
    intro x
    refine go ?_
    exact ⟨rfl, [_], ⟨Res.tmp rfl, trivial⟩, OK2 (some ⟨x, 0, none⟩) 4 [0, 1, 3, 4] :: L, by unfold OK2; exact Own.ofPts rfl ent, some ⟨x, 0, none⟩, 4, rfl, fun _ => ⟨x, rfl⟩, rfl⟩
  by_cases h2 : k = 2
  · subst h2
    refine go ?_
    refine WO.sv rfl ?_
    refine SV.lit rfl rfl rfl parts rfl nl ?_
    intro x
    refine go ?_
    exact ⟨rfl, [_], ⟨Res.tmp rfl, trivial⟩, OK2 (some ⟨x, 0, none⟩) 2 [0, 2] :: L, by unfold OK2; exact Own.ofPts rfl ent, some ⟨x, 0, none⟩, 2, rfl, fun _ => ⟨x, rfl⟩, rfl⟩
  by_cases h4 : k = 4
  · subst h4
    refine go ?_
    refine WO.sv rfl ?_
    refine SV.lit rfl rfl rfl parts rfl nl ?_
    intro x
    refine go ?_
    exact ⟨rfl, [_], ⟨Res.tmp rfl, trivial⟩, OK2 (some ⟨x, 0, none⟩) 2 [0, 2] :: L, by unfold OK2; exact Own.ofPts rfl ent, some ⟨x, 0, none⟩, 2, rfl, fun _ => ⟨x, rfl⟩, rfl⟩
  by_cases h9 : k = 9
  · subst h9
    refine go ?_
    refine WO.sv rfl ?_
    refine SV.lit rfl rfl rfl parts rfl nl ?_
    intro x
    refine go ?_
    exact ⟨rfl, [_], ⟨Res.tmp rfl, trivial⟩, OK2 (some ⟨x, 0, none⟩) 2 [0, 2] :: L, by unfold OK2; exact Own.ofPts rfl ent, some ⟨x, 0, none⟩, 2, rfl, fun _ => ⟨x, rfl⟩, rfl⟩
  by_cases h3 : k = 3
  · subst h3
    refine go ?_
    refine WO.sv rfl ?_
    refine SV.lit rfl rfl rfl parts rfl nl ?_
    intro x
    refine go ?_
    exact ⟨rfl, [_], ⟨Res.tmp rfl, trivial⟩, OK2 (some ⟨x, 0, none⟩) 1 [0] :: L, by unfold OK2; exact Own.ofPts rfl ent, some ⟨x, 0, none⟩, 1, rfl, fun _ => ⟨x, rfl⟩, rfl⟩
  by_cases h5 : k = 5
  · subst h5
    refine go ?_
    refine WO.sv rfl ?_
    refine SV.lit rfl rfl rfl parts rfl nl ?_
    intro x
    refine go ?_
    exact ⟨rfl, [_], ⟨Res.tmp rfl, trivial⟩, OK2 (some ⟨x, 0, none⟩) 1 [0] :: L, by unfold OK2; exact Own.ofPts rfl ent, some ⟨x, 0, none⟩, 1, rfl, fun _ => ⟨x, rfl⟩, rfl⟩
  by_cases h12 : k = 12
  · subst h12
    refine go ?_
    refine WO.sv rfl ?_
    refine SV.lit rfl rfl rfl parts rfl nl ?_
    intro x
    refine go ?_
    exact ⟨rfl, [_], ⟨Res.tmp rfl, trivial⟩, OK2 (some ⟨x, 0, none⟩) 1 [0] :: L, by unfold OK2; exact Own.ofPts rfl ent, some ⟨x, 0, none⟩, 1, rfl, fun _ => ⟨x, rfl⟩, rfl⟩
  by_cases h6 : k = 6
  · subst h6
    refine go ?_
    refine WO.sv rfl ?_
    refine SV.lit rfl rfl rfl parts rfl nl ?_
    intro x
    refine go ?_
    exact ⟨rfl, [_], ⟨Res.tmp rfl, trivial⟩, OK2 (some ⟨x, 0, none⟩) 3 [2, 1, 3] :: L, by unfold OK2; exact Own.ofPts rfl ent, some ⟨x, 0, none⟩, 3, rfl, fun _ => ⟨x, rfl⟩, rfl⟩
  by_cases h8 : k = 8
  · subst h8
    refine go ?_
    refine WO.sv rfl ?_
    refine SV.lit rfl rfl rfl parts rfl nl ?_
    intro x
    refine go ?_
    exact ⟨rfl, [_], ⟨Res.tmp rfl, trivial⟩, OK2 (some ⟨x, 0, none⟩) 2 [2, 4] :: L, by unfold OK2; exact Own.ofPts rfl ent, some ⟨x, 0, none⟩, 2, rfl, fun _ => ⟨x, rfl⟩, rfl⟩
  by_cases h10 : k = 10
  · subst h10
    refine go ?_
    refine WO.sv rfl ?_
    refine SV.lit rfl rfl rfl parts rfl nl ?_
    intro x
    refine go ?_
    exact ⟨rfl, [_], ⟨Res.tmp rfl, trivial⟩, OK2 (some ⟨x, 0, none⟩) 1 [2] :: L, by unfold OK2; exact Own.ofPts rfl ent, some ⟨x, 0, none⟩, 1, rfl, fun _ => ⟨x, rfl⟩, rfl⟩
  by_cases h11 : k = 11
  · subst h11
    refine go ?_
    refine WO.sv rfl ?_
    refine SV.lit rfl rfl rfl parts rfl nl ?_
    intro x
    refine go ?_
    exact ⟨rfl, [_], ⟨Res.tmp rfl, trivial⟩, OK2 (some ⟨x, 0, none⟩) 2 [0, 3] :: L, by unfold OK2; exact Own.ofPts rfl ent, some ⟨x, 0, none⟩, 2, rfl, fun _ => ⟨x, rfl⟩, rfl⟩
  have hp : pidx k = [] := by
    by_cases h7 : k = 7
    · subst h7; rfl
    · exact pidx_big (by omega)
  refine go ?_
  unfold pidI
  rw [hp]
  exact ⟨rfl, [_], ⟨Res.tmp rfl, trivial⟩, OK2 none 0 [] :: L, by unfold OK2; exact Ent.ownNil ent, none, 0, rfl, fun z => absurd rfl z, rfl⟩
theorem rs_Hex (s : BL) (L : List HP) (hs : s.length ≤ 100000) : TriE Tryd.prog 43 #[strV s] (fun v M => v = strV (hexT s) ∧ M = L) L := by
  have hl16 : hexL.length = 16 := rfl
  refine Tri.of (N := 37) (args := [strV s]) Tryd.func43 rfl rfl rfl ?_
  by_cases h : s = []
  · subst h
    refine go ?_
    refine WO.sv rfl ?_
    refine SV.eqlST (a := []) (b := []) rfl rfl rfl ?_
    refine go ?_
    exact ⟨rfl, [_], ⟨Res.tmp rfl, trivial⟩, L, ent, rfl, rfl⟩
  refine go ?_
  refine WO.sv rfl ?_
  refine SV.eqlSF (a := s) (b := []) rfl rfl h ?_
  refine go ?_
  refine W.loopS 68719476632 rfl (fun i : Nat => [(3, strV ((s.take i).flatMap hxb)), (4, .int .i64 (i : Int))]) (fun _ => L) (fun i => i ≤ s.length) (fun i => s.length - i) 0 ⟨rfl, rfl, trivial⟩ (Nat.zero_le _) (Ent.app ent) ?_
  intro i bg hi
  have hfl := hxf_len (s.take i)
  rw [List.length_take, Nat.min_eq_left hi] at hfl
  by_cases h2 : i < s.length
  · have hx : s[i]? = some s[i] := List.getElem?_eq_getElem h2
    have hts : (s.take (i + 1)).flatMap hxb = ((s.take i).flatMap hxb ++ [hxc (s[i].toNat / 16)]) ++ [hxc (s[i].toNat % 16)] := by
      rw [List.take_add_one, hx, Option.toList_some, List.flatMap_append, List.append_assoc]; rfl
    generalize s[i] = ch at hx hts
    have hch := u8_lt ch
    generalize hss : (s.take i).flatMap hxb = u at *
    refine go ?_
    refine W.drawA rfl (by kernel_rfl) (by kernel_rfl) ?_
    refine go ?_
    refine DA.q (v := u8V ch) rfl rfl (SV.indexS (s := s) (c := ch) rfl rfl (by omega) hx eqq) ?_
    refine go ?_
    refine DA.q (v := u8V ch) rfl rfl (SV.indexS (s := s) (c := ch) rfl rfl (by omega) hx eqq) ?_
    refine go ?_
    refine DA.q (v := strV [hxc (ch.toNat / 16)]) rfl rfl (SV.cutStr (s := hexL) (l := ch.toNat / 16) (h := ch.toNat / 16 + 1) (s' := [hxc (ch.toNat / 16)]) rfl (cutAt.of rfl (by omega)) (cutAt.of rfl (by omega)) (by omega) (by omega) (hexL_cut ⟨ch.toNat / 16, by omega⟩) eqq) ?_
    refine DA.q (v := strV (u ++ [hxc (ch.toNat / 16)])) rfl rfl (SV.concat rfl rfl (by simp; omega) eqq) ?_
    refine go ?_
    refine DA.q (v := u8V ch) rfl rfl (SV.indexS (s := s) (c := ch) rfl rfl (by omega) hx eqq) ?_
    refine go ?_
    refine DA.q (v := u8V ch) rfl rfl (SV.indexS (s := s) (c := ch) rfl rfl (by omega) hx eqq) ?_
    refine go ?_
    refine DA.q (v := strV [hxc (ch.toNat % 16)]) rfl rfl (SV.cutStr (s := hexL) (l := ch.toNat % 16) (h := ch.toNat % 16 + 1) (s' := [hxc (ch.toNat % 16)]) rfl (cutAt.of rfl (by omega)) (cutAt.of rfl (by omega)) (by omega) (by omega) (hexL_cut ⟨ch.toNat % 16, by omega⟩) eqq) ?_
    refine DA.q (v := strV ((u ++ [hxc (ch.toNat / 16)]) ++ [hxc (ch.toNat % 16)])) rfl rfl (SV.concat rfl rfl (by simp; omega) eqq) ?_
    refine go ?_
    exact ⟨i + 1, ⟨congrArg strV hts.symm, rfl, trivial⟩, rfl, h2, by omega, Ent.app ent⟩
  · obtain rfl : i = s.length := by omega
    rw [List.take_length] at hfl ⊢
    refine go ?_
    exact ⟨rfl, [_], ⟨Res.tmp rfl, trivial⟩, L, ent, by rw [hexT_cons h]; rfl, rfl⟩
end Go.SL

/- Layer 32 (script): the law's own helpers, and the document's acts, walked. -/
namespace Go.SL
open Go.Proofs
set_option linter.unusedVariables false
set_option linter.unusedSimpArgs false
set_option linter.unusedSectionVars false
set_option maxRecDepth 10000
set_option maxHeartbeats 4000000
attribute [local irreducible] W WO SV OW SW Tri Ent Tk Has Src SrcK DA DB DP RdS Own OwnT MapH

theorem ls_Own (A : Ac) (a : Option Addr) (c : Nat) (L : List HP) : TriE Tryd.prog 7 #[acV A a c] (fun v M => v = acV A a c ∧ M = L) L := by
  obtain ⟨k, ns, ts, ks⟩ := A
  unfold acV acL
  dsimp only
  refine Tri.of (N := 23) (args := [.agg [Value.int .i64 k, .int .i64 (ns.getD 0 0), .int .i64 (ns.getD 1 0), .int .i64 (ns.getD 2 0), .int .i64 (ns.getD 3 0), .int .i64 (ns.getD 4 0), strV (ts.getD 0 []), strV (ts.getD 1 []), .slice a ks.length c].toArray]) Tryd.func7 rfl rfl rfl ?_
  refine go ?_
  intro b1
  refine go ?_
  intro b2
  refine go ?_
  refine WO.sv rfl ?_
  refine SV.buildArr parts rfl nl ?_
  refine go ?_
  exact ⟨rfl, [_], ⟨Res.cell rfl le0 nl, trivial⟩, L, ent, rfl, rfl⟩
theorem ls_Same (A : Ac) (a a2 : Option Addr) (c c2 : Nat) (L : List HP) (hk : A.ks.length ≤ 1000000) (r : RdS 1 a A.ks.length (zv A.ks) L) (r2 : RdS 1 a2 A.ks.length (zv A.ks) L) : TriE Tryd.prog 15 #[acV A a c, acV A a2 c2] (fun v M => v = .int .i64 1 ∧ M = L) L := by
  obtain ⟨k, ns, ts, ks⟩ := A
  unfold acV acL
  dsimp only at hk r r2 ⊢
  refine Tri.of (N := 87) (args := [.agg [Value.int .i64 k, .int .i64 (ns.getD 0 0), .int .i64 (ns.getD 1 0), .int .i64 (ns.getD 2 0), .int .i64 (ns.getD 3 0), .int .i64 (ns.getD 4 0), strV (ts.getD 0 []), strV (ts.getD 1 []), .slice a ks.length c].toArray, .agg [Value.int .i64 k, .int .i64 (ns.getD 0 0), .int .i64 (ns.getD 1 0), .int .i64 (ns.getD 2 0), .int .i64 (ns.getD 3 0), .int .i64 (ns.getD 4 0), strV (ts.getD 0 []), strV (ts.getD 1 []), .slice a2 ks.length c2].toArray]) Tryd.func15 rfl rfl rfl ?_
  refine go ?_
  intro b1
  refine go ?_
  intro b2
  refine go ?_
  refine WO.sv rfl ?_
  refine SV.neqSF (a := ts.getD 0 []) (b := ts.getD 0 []) rfl rfl rfl ?_
  refine go ?_
  refine WO.sv rfl ?_
  refine SV.neqSF (a := ts.getD 1 []) (b := ts.getD 1 []) rfl rfl rfl ?_
  refine go ?_
  refine W.loopS 154741914614862175656738864 rfl (fun i : Nat => [(5, .int .i64 (i : Int))]) (fun _ => pts b2 (.cells [Value.int .i64 k, .int .i64 (ns.getD 0 0), .int .i64 (ns.getD 1 0), .int .i64 (ns.getD 2 0), .int .i64 (ns.getD 3 0), .int .i64 (ns.getD 4 0), strV (ts.getD 0 []), strV (ts.getD 1 []), .slice a2 ks.length c2].toArray 24) :: pts b1 (.cells [Value.int .i64 k, .int .i64 (ns.getD 0 0), .int .i64 (ns.getD 1 0), .int .i64 (ns.getD 2 0), .int .i64 (ns.getD 3 0), .int .i64 (ns.getD 4 0), strV (ts.getD 0 []), strV (ts.getD 1 []), .slice a ks.length c].toArray 24) :: L) (fun i => i ≤ ks.length) (fun i => ks.length - i) 0 ⟨rfl, trivial⟩ (Nat.zero_le _) (Ent.app ent) ?_
  intro i bg hi
  by_cases h : i < ks.length
  · have hx := zv_get ks i h
    obtain ⟨ab, ao, rfl⟩ := r.at (by omega)
    obtain ⟨ab2, ao2, rfl⟩ := r2.at (by omega)
    refine go ?_
    refine W.drawA rfl (by kernel_rfl) (by kernel_rfl) ?_
    refine go ?_
    refine DA.q (v := .int .i64 (ks.getD i 0)) rfl rfl (SV.loadR i rfl r.cons.cons (by omega) hx eqq) ?_
    refine go ?_
    refine DA.q (v := .int .i64 (ks.getD i 0)) rfl rfl (SV.loadR i rfl r2.cons.cons (by omega) hx eqq) ?_
    refine go ?_
    exact ⟨i + 1, ⟨rfl, trivial⟩, rfl, h, by omega, Ent.app ent⟩
  · refine go ?_
    exact ⟨rfl, [_], ⟨Res.tmp rfl, trivial⟩, L, ent, rfl, rfl⟩
end Go.SL

/- Layer 32 (script): which acts are right, and their lines, by the document, walked. -/
namespace Go.SL
open Go.Proofs
set_option linter.unusedVariables false
set_option linter.unusedSimpArgs false
set_option linter.unusedSectionVars false
set_option maxRecDepth 10000
set_option maxHeartbeats 4000000
attribute [local irreducible] W WO SV OW SW Tri Ent Tk Has Src SrcK DA DB DP RdS Own OwnT MapH

theorem pidI_len (k : Int) : (pidI k).length = (pidx k).length := by simp [pidI]
theorem pidI_get (k : Int) (i : Nat) (h : i < (pidx k).length) : (zv (pidI k))[i]? = some (.int .i64 ((pidx k)[i] : Nat)) := by
  simp [zv, pidI, h]
theorem rs_Right (A : Ac) (a : Option Addr) (c : Nat) (L : List HP) (hk : A.ks.length ≤ 1000000) (ht : ∀ j, (A.ts.getD j []).length ≤ 1000000000) (r : RdS 1 a A.ks.length (zv A.ks) L) :
    TriE Tryd.prog 11 #[acV A a c] (fun v M => (∃ t : Bool, v = .bool t ∧ (t = true ↔ A.right)) ∧ M = L) L := by
  obtain ⟨k, ns, ts, ks⟩ := A
  dsimp only at hk ht r
  unfold acV
  dsimp only
  refine Tri.of (N := 103) (args := [.agg (acL k ns ts (.slice a ks.length c)).toArray]) Tryd.func11 rfl rfl rfl ?_
  have no : ¬Ac.right ⟨k, ns, ts, ks⟩ → (false = true ↔ Ac.right ⟨k, ns, ts, ks⟩) := fun q => ⟨fun z => (by cases z), fun z => absurd z q⟩
  have ht0 := ht 0
  have ht1 := ht 1
  have hp := pidx_ok k
  unfold acL
  refine go ?_
  intro b1
  by_cases q1 : k < 0
  · refine go ?_
    exact ⟨rfl, [_], ⟨Res.tmp rfl, trivial⟩, L, ent, ⟨false, rfl, no fun z => by have := z.1; dsimp only at this; omega⟩, rfl⟩
  by_cases q2 : 12 < k
  · refine go ?_
    exact ⟨rfl, [_], ⟨Res.tmp rfl, trivial⟩, L, ent, ⟨false, rfl, no fun z => by have := z.2.1; dsimp only at this; omega⟩, rfl⟩
  refine go ?_
  refine WO.callE (vs := [.int .i64 k]) Tryd.func35 rfl rfl rfl rfl (rs_Has k _) ?_
  rintro v M ⟨fa, fc, rfl, sfa, rfl⟩
  refine go ?_
  refine W.loopS 2199023124500 rfl (fun i : Nat => [(4, .int .i64 (i : Int))]) (fun _ => OK2 fa fc (pidI k) :: pts b1 (.cells (acL k ns ts (.slice a ks.length c)).toArray 27) :: L)
    (fun i => i ≤ (pidx k).length ∧ ∀ j ∈ (pidx k).take i, okN (ns.getD j 0)) (fun i => (pidx k).length - i) 0 ⟨rfl, trivial⟩ ⟨Nat.zero_le _, by simp⟩ (Ent.app ent) ?_
  rintro i bg ⟨hi, hz⟩
  by_cases h : i < (pidx k).length
  · have hj := hp.2.1 _ (List.getElem_mem h)
    have p1 := pidI_get k i h
    have hts : (pidx k).take (i + 1) = (pidx k).take i ++ [(pidx k)[i]] := by rw [List.take_add_one, List.getElem?_eq_getElem h]; rfl
    have hmem : (pidx k)[i] ∈ pidx k := List.getElem_mem h
    have rdf : ∀ X, RdS 1 fa (pidx k).length (zv (pidI k)) (OK2 fa fc (pidI k) :: X) := fun X => by unfold OK2; rw [pidI_len]; exact RdS.ownS Tk.here sfa (by rw [zv_len, pidI_len])
    obtain ⟨fb, rfl⟩ := sfa (by omega)
    generalize (pidx k)[i] = j at *
    have hget := acL_get k ns ts (.slice a ks.length c) hj
    generalize hm : ns.getD j 0 = m at *
    by_cases g1 : m < 0
    · refine go ?_
      refine WO.sv rfl ?_
      refine SV.loadR (v := .int .i64 (j : Nat)) i rfl (rdf _) (by omega) p1 ?_
      refine go ?_
      refine WO.sv rfl ?_
      refine SV.loadR (v := .int .i64 m) (1 + j) rfl (RdS.all (sz := 1) (n := 9) rfl).cons (by omega) hget ?_
      refine go ?_
      exact ⟨rfl, [_], ⟨Res.tmp rfl, trivial⟩, L, ent, ⟨false, rfl, no fun z => by have := z.2.2.1 j hmem; unfold okN at this; dsimp only at this; omega⟩, rfl⟩
    by_cases g2 : m < 2147483648
    rotate_left
    · refine go ?_
      refine WO.sv rfl ?_
      refine SV.loadR (v := .int .i64 (j : Nat)) i rfl (rdf _) (by omega) p1 ?_
      refine go ?_
      refine WO.sv rfl ?_
      refine SV.loadR (v := .int .i64 m) (1 + j) rfl (RdS.all (sz := 1) (n := 9) rfl).cons (by omega) hget ?_
      refine go ?_
      refine WO.sv rfl ?_
      refine SV.loadR (v := .int .i64 (j : Nat)) i rfl (rdf _) (by omega) p1 ?_
      refine go ?_
      refine WO.sv rfl ?_
      refine SV.loadR (v := .int .i64 m) (1 + j) rfl (RdS.all (sz := 1) (n := 9) rfl).cons (by omega) hget ?_
      refine go ?_
      exact ⟨rfl, [_], ⟨Res.tmp rfl, trivial⟩, L, ent, ⟨false, rfl, no fun z => by have := z.2.2.1 j hmem; unfold okN at this; dsimp only at this; omega⟩, rfl⟩
    refine go ?_
    refine WO.sv rfl ?_
    refine SV.loadR (v := .int .i64 (j : Nat)) i rfl (rdf _) (by omega) p1 ?_
    refine go ?_
    refine WO.sv rfl ?_
    refine SV.loadR (v := .int .i64 m) (1 + j) rfl (RdS.all (sz := 1) (n := 9) rfl).cons (by omega) hget ?_
    refine go ?_
    refine WO.sv rfl ?_
    refine SV.loadR (v := .int .i64 (j : Nat)) i rfl (rdf _) (by omega) p1 ?_
    refine go ?_
    refine WO.sv rfl ?_
    refine SV.loadR (v := .int .i64 m) (1 + j) rfl (RdS.all (sz := 1) (n := 9) rfl).cons (by omega) hget ?_
    refine go ?_
    refine ⟨i + 1, ⟨rfl, trivial⟩, rfl, ⟨by omega, ?_⟩, by omega, Ent.app ent⟩
    rw [hts]
    intro n hn
    rcases List.mem_append.1 hn with hn | hn
    · exact hz n hn
    · rw [List.mem_singleton.1 hn, hm]; exact ⟨by omega, g2⟩
  obtain rfl : i = (pidx k).length := by omega
  rw [List.take_length] at hz
  have hn2 := ntx_le k
  by_cases k0 : k = 0
  · subst k0
    have k12 : (0 : Int) ≠ 12 := by decide
    by_cases l0 : 200 < (ts.getD 0 []).length
    · refine go ?_
      exact ⟨rfl, [_], ⟨Res.tmp rfl, trivial⟩, L, ent, ⟨false, rfl, no fun z => by have := z.2.2.2.1 0 (show 0 < ntx 0 by decide); dsimp only at this; omega⟩, rfl⟩
    by_cases l1 : 200 < (ts.getD 1 []).length
    · refine go ?_
      exact ⟨rfl, [_], ⟨Res.tmp rfl, trivial⟩, L, ent, ⟨false, rfl, no fun z => by have := z.2.2.2.1 1 (show 1 < ntx 0 by decide); dsimp only at this; omega⟩, rfl⟩
    have hQ : ∀ j, j < ntx 0 → (ts.getD j []).length ≤ 200 := fun j hj => by
      match j with
      | 0 => omega
      | 1 => omega
      | j + 2 => have : ntx 0 = 2 := rfl; omega
    refine go ?_
    refine W.loopS 10141204650710107760144978804772 rfl (fun i : Nat => [(5, .int .i64 (i : Int))]) (fun _ => pts b1 (.cells (acL 0 ns ts (.slice a ks.length c)).toArray 27) :: L) (fun i => i ≤ ks.length ∧ ∀ n ∈ ks.take i, okN n) (fun i => ks.length - i) 0 ⟨rfl, trivial⟩ ⟨Nat.zero_le _, by simp⟩ (Ent.app ent) ?_
    rintro i bg2 ⟨hi2, hz2⟩
    refine go ?_
    exact ⟨rfl, [_], ⟨Res.tmp rfl, trivial⟩, L, ent, ⟨true, rfl, ⟨fun _ => ⟨by dsimp only; omega, by dsimp only; omega, hz, hQ, fun z => absurd z k12⟩, fun _ => rfl⟩⟩, rfl⟩
  by_cases k7 : k = 7
  · subst k7
    have k12 : (7 : Int) ≠ 12 := by decide
    by_cases l0 : 200 < (ts.getD 0 []).length
    · refine go ?_
      exact ⟨rfl, [_], ⟨Res.tmp rfl, trivial⟩, L, ent, ⟨false, rfl, no fun z => by have := z.2.2.2.1 0 (show 0 < ntx 7 by decide); dsimp only at this; omega⟩, rfl⟩
    have hQ : ∀ j, j < ntx 7 → (ts.getD j []).length ≤ 200 := fun j hj => by
      match j with
      | 0 => omega
      | j + 1 => have : ntx 7 = 1 := rfl; omega
    refine go ?_
    refine W.loopS 10141204650710107760144978804772 rfl (fun i : Nat => [(5, .int .i64 (i : Int))]) (fun _ => pts b1 (.cells (acL 7 ns ts (.slice a ks.length c)).toArray 27) :: L) (fun i => i ≤ ks.length ∧ ∀ n ∈ ks.take i, okN n) (fun i => ks.length - i) 0 ⟨rfl, trivial⟩ ⟨Nat.zero_le _, by simp⟩ (Ent.app ent) ?_
    rintro i bg2 ⟨hi2, hz2⟩
    refine go ?_
    exact ⟨rfl, [_], ⟨Res.tmp rfl, trivial⟩, L, ent, ⟨true, rfl, ⟨fun _ => ⟨by dsimp only; omega, by dsimp only; omega, hz, hQ, fun z => absurd z k12⟩, fun _ => rfl⟩⟩, rfl⟩
  have hnt : ntx k = 0 := by unfold ntx; rw [if_neg k0, if_neg k7]
  have hQ : ∀ j, j < ntx k → (ts.getD j []).length ≤ 200 := fun j hj => by omega
  by_cases k12 : k = 12
  · subst k12
    by_cases l0 : 100 < ks.length
    · refine go ?_
      exact ⟨rfl, [_], ⟨Res.tmp rfl, trivial⟩, L, ent, ⟨false, rfl, no fun z => by have := (z.2.2.2.2 rfl).1; dsimp only at this; omega⟩, rfl⟩
    refine go ?_
    refine W.loopS 10141204650710107760144978804772 rfl (fun i : Nat => [(5, .int .i64 (i : Int))]) (fun _ => pts b1 (.cells (acL 12 ns ts (.slice a ks.length c)).toArray 27) :: L) (fun i => i ≤ ks.length ∧ ∀ n ∈ ks.take i, okN n) (fun i => ks.length - i) 0 ⟨rfl, trivial⟩ ⟨Nat.zero_le _, by simp⟩ (Ent.app ent) ?_
    rintro i bg2 ⟨hi2, hz2⟩
    by_cases h : i < ks.length
    rotate_left
    · obtain rfl : i = ks.length := by omega
      rw [List.take_length] at hz2
      refine go ?_
      exact ⟨rfl, [_], ⟨Res.tmp rfl, trivial⟩, L, ent, ⟨true, rfl, ⟨fun _ => ⟨by dsimp only; omega, by dsimp only; omega, hz, hQ, fun _ => ⟨by dsimp only; omega, hz2⟩⟩, fun _ => rfl⟩⟩, rfl⟩
    have hx := zv_get ks i h
    have hts : ks.take (i + 1) = ks.take i ++ [ks.getD i 0] := by
      rw [List.take_add_one, List.getD_eq_getElem?_getD, List.getElem?_eq_getElem h]; rfl
    have hmem : ks.getD i 0 ∈ ks := by rw [List.getD_eq_getElem?_getD, List.getElem?_eq_getElem h]; exact List.getElem_mem h
    obtain ⟨ab, ao, rfl⟩ := r.at (by omega)
    generalize hpe : ks.getD i 0 = m at *
    by_cases g1 : m < 0
    · refine go ?_
      refine WO.sv rfl ?_
      refine SV.loadR (v := .int .i64 m) i rfl r.cons (by omega) hx ?_
      refine go ?_
      exact ⟨rfl, [_], ⟨Res.tmp rfl, trivial⟩, L, ent, ⟨false, rfl, no fun z => by have := (z.2.2.2.2 rfl).2 m hmem; unfold okN at this; omega⟩, rfl⟩
    by_cases g2 : m < 2147483648
    rotate_left
    · refine go ?_
      refine WO.sv rfl ?_
      refine SV.loadR (v := .int .i64 m) i rfl r.cons (by omega) hx ?_
      refine go ?_
      refine WO.sv rfl ?_
      refine SV.loadR (v := .int .i64 m) i rfl r.cons (by omega) hx ?_
      refine go ?_
      exact ⟨rfl, [_], ⟨Res.tmp rfl, trivial⟩, L, ent, ⟨false, rfl, no fun z => by have := (z.2.2.2.2 rfl).2 m hmem; unfold okN at this; omega⟩, rfl⟩
    refine go ?_
    refine WO.sv rfl ?_
    refine SV.loadR (v := .int .i64 m) i rfl r.cons (by omega) hx ?_
    refine go ?_
    refine WO.sv rfl ?_
    refine SV.loadR (v := .int .i64 m) i rfl r.cons (by omega) hx ?_
    refine go ?_
    refine ⟨i + 1, ⟨rfl, trivial⟩, rfl, ⟨by omega, ?_⟩, by omega, Ent.app ent⟩
    rw [hts]
    intro n hn
    rcases List.mem_append.1 hn with hn | hn
    · exact hz2 n hn
    · rw [List.mem_singleton.1 hn]; exact ⟨by omega, g2⟩
  refine go ?_
  refine W.loopS 10141204650710107760144978804772 rfl (fun i : Nat => [(5, .int .i64 (i : Int))]) (fun _ => pts b1 (.cells (acL k ns ts (.slice a ks.length c)).toArray 27) :: L) (fun i => i ≤ ks.length ∧ ∀ n ∈ ks.take i, okN n) (fun i => ks.length - i) 0 ⟨rfl, trivial⟩ ⟨Nat.zero_le _, by simp⟩ (Ent.app ent) ?_
  rintro i bg2 ⟨hi2, hz2⟩
  refine go ?_
  exact ⟨rfl, [_], ⟨Res.tmp rfl, trivial⟩, L, ent, ⟨true, rfl, ⟨fun _ => ⟨by dsimp only; omega, by dsimp only; omega, hz, hQ, fun z => absurd z k12⟩, fun _ => rfl⟩⟩, rfl⟩
end Go.SL

/- Layer 32 (script): the line of an act, by the document, walked. -/
namespace Go.SL
open Go.Proofs
set_option linter.unusedVariables false
set_option linter.unusedSimpArgs false
set_option linter.unusedSectionVars false
set_option maxRecDepth 10000
set_option maxHeartbeats 4000000
attribute [local irreducible] W WO SV OW SW Tri Ent Tk Has Src SrcK DA DB DP RdS Own OwnT MapH

theorem verb_getD_len (k : Nat) : (verbL.getD k []).length ≤ 6 := by
  rw [List.getD_eq_getElem?_getD]
  cases h : verbL[k]? with
  | none => decide
  | some w => exact verb_len w (List.mem_of_getElem? h)
theorem nw_small {ns : List Int} {l : List Nat} (h : ∀ j ∈ l, okN (ns.getD j 0)) : ∀ w ∈ Ac.nw ns l, w.length ≤ 10 := by
  intro w hw
  obtain ⟨j, hj, rfl⟩ := List.mem_map.1 hw
  have := h j hj
  unfold okN at this
  exact dg_len (by omega)
theorem kw_small {ks : List Int} (h : ∀ n ∈ ks, okN n) : ∀ w ∈ Ac.kw ks, w.length ≤ 10 := by
  intro w hw
  obtain ⟨j, hj, rfl⟩ := List.mem_map.1 hw
  have := h j hj
  unfold okN at this
  exact dg_len (by omega)
theorem rs_Text (A : Ac) (a : Option Addr) (c : Nat) (L : List HP) (hR : A.right) (hk : A.ks.length ≤ 1000000) (r : RdS 1 a A.ks.length (zv A.ks) L) :
    TriE Tryd.prog 14 #[acV A a c] (fun v M => v = strV A.text ∧ M = L) L := by
  obtain ⟨k, ns, ts, ks⟩ := A
  obtain ⟨g1, g2, g3, g4, g5⟩ := hR
  dsimp only at g1 g2 g3 g4 g5 hk r
  unfold acV
  dsimp only
  have hc1 : ([32] : BL).length = 1 := rfl
  have hp := pidx_ok k
  have hv6 := verb_getD_len k.toNat
  refine Tri.of (N := 77) (args := [.agg (acL k ns ts (.slice a ks.length c)).toArray]) Tryd.func14 rfl rfl rfl ?_
  unfold acL
  refine go ?_
  intro b1
  refine go ?_
  refine WO.callE (vs := [.int .i64 k]) Tryd.func41 rfl rfl rfl rfl (rs_Verb k _ ⟨g1, g2⟩) ?_
  rintro v M ⟨rfl, rfl⟩
  generalize hv0 : verbL.getD k.toNat [] = v0 at *
  refine go ?_
  refine WO.callE (vs := [.int .i64 k]) Tryd.func35 rfl rfl rfl rfl (rs_Has k _) ?_
  rintro v M ⟨fa, fc, rfl, sfa, rfl⟩
  have hsm : ∀ i, i ≤ (pidx k).length → (jn (v0 :: Ac.nw ns ((pidx k).take i))).length ≤ 100 := fun i hi => by
    have h1 := jn_le 10 (v0 :: Ac.nw ns ((pidx k).take i)) (fun w hw => by
      rcases List.mem_cons.1 hw with e | hw
      · rw [e]; omega
      · exact nw_small (fun j hj => g3 j (List.mem_of_mem_take hj)) w hw)
    rw [List.length_cons, nw_take_len ns hi] at h1
    omega
  refine go ?_
  refine W.loopS 2147475496 rfl (fun i : Nat => [(3, strV (jn (v0 :: Ac.nw ns ((pidx k).take i)))), (5, .int .i64 (i : Int))]) (fun _ => OK2 fa fc (pidI k) :: pts b1 (.cells (acL k ns ts (.slice a ks.length c)).toArray 27) :: L)
    (fun i => i ≤ (pidx k).length) (fun i => (pidx k).length - i) 0 ⟨rfl, rfl, trivial⟩ (Nat.zero_le _) (Ent.app ent) ?_
  intro i bg hi
  have hsi := hsm i hi
  by_cases h : i < (pidx k).length
  · have hj := hp.2.1 _ (List.getElem_mem h)
    have p1 := pidI_get k i h
    have hok := g3 _ (List.getElem_mem h)
    have hst := nw_step ns (pidx k) i h
    have rdf : ∀ X, RdS 1 fa (pidx k).length (zv (pidI k)) (OK2 fa fc (pidI k) :: X) := fun X => by unfold OK2; rw [pidI_len]; exact RdS.ownS Tk.here sfa (by rw [zv_len, pidI_len])
    obtain ⟨fb, rfl⟩ := sfa (by omega)
    generalize (pidx k)[i] = j at *
    have hget := acL_get k ns ts (.slice a ks.length c) hj
    unfold okN at hok
    have hjn : jn (v0 :: Ac.nw ns ((pidx k).take (i + 1))) = (jn (v0 :: Ac.nw ns ((pidx k).take i)) ++ [32]) ++ dg (ns.getD j 0).toNat := by
      rw [hst]
      have := jn_snoc (v0 :: Ac.nw ns ((pidx k).take i)) (dg (ns.getD j 0).toNat) (List.cons_ne_nil _ _)
      rw [List.cons_append] at this
      rw [this]; simp
    generalize ns.getD j 0 = m0 at *
    obtain ⟨m1, rfl⟩ : ∃ m : Nat, m0 = m := ⟨m0.toNat, by omega⟩
    rw [Int.toNat_natCast] at hjn
    have hdl := dg_len (n := m1) (by omega)
    generalize jn (v0 :: Ac.nw ns ((pidx k).take i)) = u at *
    refine go ?_
    refine WO.sv rfl ?_
    refine SV.concat (a := u) (b := [32]) rfl rfl (by rw [hc1]; omega) ?_
    refine go ?_
    refine WO.sv rfl ?_
    refine SV.loadR (v := .int .i64 (j : Nat)) i rfl (rdf _) (by omega) p1 ?_
    refine go ?_
    refine WO.sv rfl ?_
    refine SV.loadR (v := .int .i64 m1) (1 + j) rfl (RdS.all (sz := 1) (n := 9) rfl).cons (by omega) hget ?_
    refine go ?_
    refine WO.callE (vs := [.int .u64 m1]) Tryd.func42 rfl rfl rfl rfl (rs_digits m1 _ (by omega)) ?_
    rintro v M ⟨rfl, rfl⟩
    refine WO.sv rfl ?_
    refine SV.concat (a := u ++ [32]) (b := dg m1) rfl rfl (by rw [List.length_append, hc1]; omega) ?_
    refine go ?_
    exact ⟨i + 1, ⟨congrArg strV hjn.symm, rfl, trivial⟩, rfl, h, by omega, Ent.app ent⟩
  obtain rfl : i = (pidx k).length := by omega
  rw [List.take_length] at hsi ⊢
  have htx : Ac.text ⟨k, ns, ts, ks⟩ = jn (v0 :: (Ac.nw ns (pidx k) ++ (Ac.tw ts (ntx k) ++ if k = 12 then Ac.kw ks else []))) := by
    unfold Ac.text Ac.ws
    dsimp only
    rw [hv0]
  generalize hu : jn (v0 :: Ac.nw ns (pidx k)) = u at *
  have hun : v0 :: Ac.nw ns (pidx k) ≠ [] := List.cons_ne_nil _ _
  by_cases k0 : k = 0
  · subst k0
    have t0 := g4 0 (show 0 < ntx 0 by decide)
    have t1 := g4 1 (show 1 < ntx 0 by decide)
    have q0 := hexT_len (ts.getD 0 [])
    have q1 := hexT_len (ts.getD 1 [])
    have hfin : Ac.text ⟨0, ns, ts, ks⟩ = (((u ++ [32]) ++ hexT (ts.getD 0 [])) ++ [32]) ++ hexT (ts.getD 1 []) := by
      rw [htx, if_neg (by decide), List.append_nil, show Ac.tw ts (ntx 0) = [hexT (ts.getD 0 []), hexT (ts.getD 1 [])] from rfl, ← List.cons_append]
      rw [show (v0 :: Ac.nw ns (pidx 0)) ++ [hexT (ts.getD 0 []), hexT (ts.getD 1 [])] = ((v0 :: Ac.nw ns (pidx 0)) ++ [hexT (ts.getD 0 [])]) ++ [hexT (ts.getD 1 [])] by simp]
      rw [jn_snoc _ _ (by simp), jn_snoc _ _ hun, hu]
      simp
    refine go ?_
    refine W.drawB #[0, 1, 0, 4, 12, 31, 63, 0, 128, 412, 1023, 2047] [pts b1 (.cells (acL 0 ns ts (.slice a ks.length c)).toArray 27)] L rfl (by kernel_rfl) (by kernel_rfl) (by kernel_rfl) ent ?_
    refine go ?_
    refine DB.q (v := strV (u ++ [32])) rfl rfl hl (SV.concat (a := u) (b := [32]) rfl rfl (by rw [hc1]; omega) eqq) ?_
    refine go ?_
    refine DB.callE (vs := [strV (ts.getD 0 [])]) Tryd.func43 rfl rfl rfl rfl hl hl (rs_Hex _ _ (by omega)) ?_
    rintro v M ⟨rfl, rfl⟩
    refine ⟨[], L, ent, ?_⟩
    refine DB.q (v := strV ((u ++ [32]) ++ hexT (ts.getD 0 []))) rfl rfl hl (SV.concat (a := u ++ [32]) (b := hexT (ts.getD 0 [])) rfl rfl (by rw [List.length_append, hc1]; omega) eqq) ?_
    refine DB.q (v := strV (((u ++ [32]) ++ hexT (ts.getD 0 [])) ++ [32])) rfl rfl hl (SV.concat (a := (u ++ [32]) ++ hexT (ts.getD 0 [])) (b := [32]) rfl rfl (by rw [List.length_append, List.length_append, hc1]; omega) eqq) ?_
    refine go ?_
    refine DB.callE (vs := [strV (ts.getD 1 [])]) Tryd.func43 rfl rfl rfl rfl hl hl (rs_Hex _ _ (by omega)) ?_
    rintro v M ⟨rfl, rfl⟩
    refine ⟨[], L, ent, ?_⟩
    refine DB.q (v := strV ((((u ++ [32]) ++ hexT (ts.getD 0 [])) ++ [32]) ++ hexT (ts.getD 1 []))) rfl rfl hl (SV.concat (a := ((u ++ [32]) ++ hexT (ts.getD 0 [])) ++ [32]) (b := hexT (ts.getD 1 [])) rfl rfl (by rw [List.length_append, List.length_append, List.length_append, hc1]; omega) eqq) ?_
    refine go ?_
    refine ⟨pts b1 (.cells (acL 0 ns ts (.slice a ks.length c)).toArray 27) :: L, ent, ?_⟩
    refine go ?_
    refine W.loopS 75557845711515813937224 rfl (fun i : Nat => [(3, strV ((((u ++ [32]) ++ hexT (ts.getD 0 [])) ++ [32]) ++ hexT (ts.getD 1 []))), (6, .int .i64 (i : Int))]) (fun _ => pts b1 (.cells (acL 0 ns ts (.slice a ks.length c)).toArray 27) :: L) (fun i => i = 0) (fun i => ks.length - i) 0 ⟨rfl, rfl, trivial⟩ rfl (Ent.app ent) ?_
    rintro i bg2 rfl
    refine go ?_
    exact ⟨rfl, [_], ⟨Res.tmp rfl, trivial⟩, L, ent, by rw [hfin]; rfl, rfl⟩
  by_cases k7 : k = 7
  · subst k7
    have t0 := g4 0 (show 0 < ntx 7 by decide)
    have q0 := hexT_len (ts.getD 0 [])
    have hfin : Ac.text ⟨7, ns, ts, ks⟩ = (u ++ [32]) ++ hexT (ts.getD 0 []) := by
      rw [htx, if_neg (by decide), List.append_nil, show Ac.tw ts (ntx 7) = [hexT (ts.getD 0 [])] from rfl, ← List.cons_append, jn_snoc _ _ hun, hu]
      simp
    refine go ?_
    refine WO.sv rfl ?_
    refine SV.concat (a := u) (b := [32]) rfl rfl (by rw [hc1]; omega) ?_
    refine go ?_
    refine WO.callE (vs := [strV (ts.getD 0 [])]) Tryd.func43 rfl rfl rfl rfl (rs_Hex _ _ (by omega)) ?_
    rintro v M ⟨rfl, rfl⟩
    refine WO.sv rfl ?_
    refine SV.concat (a := u ++ [32]) (b := hexT (ts.getD 0 [])) rfl rfl (by rw [List.length_append, hc1]; omega) ?_
    refine go ?_
    refine W.loopS 75557845711515813937224 rfl (fun i : Nat => [(3, strV ((u ++ [32]) ++ hexT (ts.getD 0 []))), (6, .int .i64 (i : Int))]) (fun _ => pts b1 (.cells (acL 7 ns ts (.slice a ks.length c)).toArray 27) :: L) (fun i => i = 0) (fun i => ks.length - i) 0 ⟨rfl, rfl, trivial⟩ rfl (Ent.app ent) ?_
    rintro i bg2 rfl
    refine go ?_
    exact ⟨rfl, [_], ⟨Res.tmp rfl, trivial⟩, L, ent, by rw [hfin]; rfl, rfl⟩
  have hnt : ntx k = 0 := by unfold ntx; rw [if_neg k0, if_neg k7]
  rw [hnt, show Ac.tw ts 0 = [] from rfl, List.nil_append] at htx
  by_cases k12 : k = 12
  · subst k12
    rw [if_pos rfl] at htx
    obtain ⟨g6, g7⟩ := g5 rfl
    have hsm2 : ∀ i, i ≤ ks.length → (jn ((v0 :: Ac.nw ns (pidx 12)) ++ Ac.kw (ks.take i))).length ≤ 2000 := fun i hi => by
      have h1 := jn_le 10 ((v0 :: Ac.nw ns (pidx 12)) ++ Ac.kw (ks.take i)) (fun w hw => by
        rcases List.mem_append.1 hw with hw | hw
        · rcases List.mem_cons.1 hw with e | hw
          · rw [e]; omega
          · exact nw_small g3 w hw
        · exact kw_small (fun n hn => g7 n (List.mem_of_mem_take hn)) w hw)
      rw [List.length_append, List.length_cons, Ac.nw_len, Ac.kw_len, List.length_take, Nat.min_eq_left hi] at h1
      have : (pidx 12).length = 1 := rfl
      omega
    refine go ?_
    refine W.loopS 75557845711515813937224 rfl (fun i : Nat => [(3, strV (jn ((v0 :: Ac.nw ns (pidx 12)) ++ Ac.kw (ks.take i)))), (6, .int .i64 (i : Int))]) (fun _ => pts b1 (.cells (acL 12 ns ts (.slice a ks.length c)).toArray 27) :: L) (fun i => i ≤ ks.length) (fun i => ks.length - i) 0
      ⟨by rw [List.take_zero, show Ac.kw [] = [] from rfl, List.append_nil, hu]; rfl, rfl, trivial⟩ (Nat.zero_le _) (Ent.app ent) ?_
    intro i bg2 hi
    have hsi2 := hsm2 i hi
    by_cases h2 : i < ks.length
    rotate_left
    · obtain rfl : i = ks.length := by omega
      rw [List.take_length]
      refine go ?_
      exact ⟨rfl, [_], ⟨Res.tmp rfl, trivial⟩, L, ent, by rw [htx]; rfl, rfl⟩
    have hx := zv_get ks i h2
    have hst := kw_step ks i h2
    have hok := g7 _ (show ks.getD i 0 ∈ ks by rw [List.getD_eq_getElem?_getD, List.getElem?_eq_getElem h2]; exact List.getElem_mem h2)
    unfold okN at hok
    obtain ⟨ab, ao, rfl⟩ := r.at (by omega)
    have hjn : jn ((v0 :: Ac.nw ns (pidx 12)) ++ Ac.kw (ks.take (i + 1))) = (jn ((v0 :: Ac.nw ns (pidx 12)) ++ Ac.kw (ks.take i)) ++ [32]) ++ dg (ks.getD i 0).toNat := by
      rw [hst, ← List.append_assoc, jn_snoc _ _ (by simp)]; simp
    generalize ks.getD i 0 = m0 at *
    obtain ⟨m1, rfl⟩ : ∃ m : Nat, m0 = m := ⟨m0.toNat, by omega⟩
    rw [Int.toNat_natCast] at hjn
    have hdl := dg_len (n := m1) (by omega)
    generalize jn ((v0 :: Ac.nw ns (pidx 12)) ++ Ac.kw (ks.take i)) = u2 at *
    refine go ?_
    refine WO.sv rfl ?_
    refine SV.concat (a := u2) (b := [32]) rfl rfl (by rw [hc1]; omega) ?_
    refine go ?_
    refine WO.sv rfl ?_
    refine SV.loadR (v := .int .i64 m1) i rfl r.cons (by omega) hx ?_
    refine go ?_
    refine WO.callE (vs := [.int .u64 m1]) Tryd.func42 rfl rfl rfl rfl (rs_digits m1 _ (by omega)) ?_
    rintro v M ⟨rfl, rfl⟩
    refine WO.sv rfl ?_
    refine SV.concat (a := u2 ++ [32]) (b := dg m1) rfl rfl (by rw [List.length_append, hc1]; omega) ?_
    refine go ?_
    exact ⟨i + 1, ⟨congrArg strV hjn.symm, rfl, trivial⟩, rfl, h2, by omega, Ent.app ent⟩
  rw [if_neg k12, List.append_nil] at htx
  have hfin : Ac.text ⟨k, ns, ts, ks⟩ = u := by rw [htx, hu]
  refine go ?_
  refine W.loopS 75557845711515813937224 rfl (fun i : Nat => [(3, strV (u)), (6, .int .i64 (i : Int))]) (fun _ => pts b1 (.cells (acL k ns ts (.slice a ks.length c)).toArray 27) :: L) (fun i => i = 0) (fun i => ks.length - i) 0 ⟨rfl, rfl, trivial⟩ rfl (Ent.app ent) ?_
  rintro i bg2 rfl
  refine go ?_
  exact ⟨rfl, [_], ⟨Res.tmp rfl, trivial⟩, L, ent, by rw [hfin]; rfl, rfl⟩
end Go.SL

/- Layer 32 (script): what came of an act, as a line, walked. -/
namespace Go.SL
open Go.Proofs
set_option linter.unusedVariables false
set_option linter.unusedSimpArgs false
set_option linter.unusedSectionVars false
set_option maxRecDepth 10000
set_option maxHeartbeats 4000000
attribute [local irreducible] W WO SV OW SW Tri Ent Tk Has Src SrcK DA DB DP RdS Own OwnT MapH

theorem sub_full {l : List Value} {n : Nat} (h : l.length = n) : NL (lsub l 0 n) l := by
  rw [lsub_eq, List.drop_zero, List.take_of_length_le (by omega)]; rfl
theorem id_Text (id : BL) (L : List HP) (hid : id.length = 32) : TriE Tryd.prog 44 #[.agg (id.map u8V).toArray] (fun v M => v = strV (id.flatMap hxb) ∧ M = L) L := by
  have hml : (id.map u8V).length = 32 := by rw [List.length_map, hid]
  refine Tri.of (N := 22) (args := [.agg (id.map u8V).toArray]) Tryd.func44 rfl rfl rfl ?_
  refine go ?_
  intro b1
  refine go ?_
  refine WO.sv rfl ?_
  refine SV.loadN (vs := id.map u8V) rfl (sub_full hml) (by rw [hml]; decide) ?_
  refine go ?_
  refine W.loopS 1048488 rfl (fun q : Nat × Option Addr × Nat => [(3, .slice q.2.1 ((id.take q.1).flatMap hxb).length q.2.2), (7, .int .i64 (q.1 : Int))]) (fun q => OY q.2.1 q.2.2 ((id.take q.1).flatMap hxb) :: L)
    (fun q => q.1 ≤ 32 ∧ SomeA q.2.1 ((id.take q.1).flatMap hxb).length) (fun q => 32 - q.1) (0, none, 0) ⟨rfl, rfl, trivial⟩ ⟨Nat.zero_le _, fun z => absurd rfl z⟩ (Ent.app (by dsimp only; unfold OY; exact Ent.ownNil ent)) ?_
  rintro ⟨i, a, c⟩ bg ⟨hi, ha⟩
  dsimp only at hi ha ⊢
  have hfl := hxf_len (id.take i)
  rw [List.length_take, Nat.min_eq_left (by omega)] at hfl
  by_cases h2 : i < 32
  · have hx : id[i]? = some (id[i]'(by omega)) := List.getElem?_eq_getElem (by omega)
    generalize id[i]'(by omega) = ch at hx
    have hts : (id.take (i + 1)).flatMap hxb = (id.take i).flatMap hxb ++ hxb ch := by
      rw [List.take_add_one, hx, Option.toList_some, List.flatMap_append]; simp
    have hch := u8_lt ch
    generalize hss : (id.take i).flatMap hxb = u at *
    refine go ?_
    refine WO.sv rfl ?_
    refine SV.indexA (cs := id.map u8V) (v := u8V ch) rfl rfl (by omega) (by omega) (by rw [lget_eq, Int.toNat_natCast, Nat.mul_one, List.getElem?_map, hx]; rfl) ?_
    refine go ?_
    refine W.drawG (fun _ => false) #[0, 0, 2, 6, 0, 16, 48, 126, 255, 511] [] (OY a c u :: L) rfl (by kernel_rfl) (by kernel_rfl) (by kernel_rfl) ent ?_
    refine go ?_
    refine DB.q (v := u8V (hxc (ch.toNat / 16))) rfl rfl hl (SV.indexS (s := hexL) (c := hxc (ch.toNat / 16)) rfl rfl (by omega) (by rw [show ((ch.toNat : Int) / 16).toNat = ch.toNat / 16 by omega]; exact hexL_get _ (by omega)) eqq) ?_
    refine go ?_
    refine DB.q (v := u8V (hxc (ch.toNat % 16))) rfl rfl hl (SV.indexS (s := hexL) (c := hxc (ch.toNat % 16)) rfl rfl (by omega) (by rw [show ((ch.toNat : Int) % 16).toNat = ch.toNat % 16 by omega]; exact hexL_get _ (by omega)) eqq) ?_
    refine go ?_
    refine DB.litH rfl rfl rfl parts rfl nl rfl rfl ?_
    intro b2
    refine go ?_
    refine DB.v rfl rfl rfl hl hl ?_
    unfold OY
    refine SV.append rfl rfl rfl (Tk.there Tk.here) (RdS.src (RdS.all (sz := 1) (n := 2) rfl)) rfl rfl (by omega) rfl ?_
    intro a' c' ha'
    refine ⟨[], _, Ent.refl _, ?_⟩
    refine go ?_
    refine ⟨Own 5 1 (.slice a' (u.length + 2) c') (u.length + 2) (u.map u8V ++ (hxb ch).map u8V) :: L, ent, ?_⟩
    refine go ?_
    have hul : (u ++ hxb ch).length = u.length + 2 := by rw [List.length_append]; rfl
    refine ⟨(i + 1, a', c'), ⟨by dsimp only; rw [hts, hul]; rfl, rfl, trivial⟩, rfl, ⟨h2, by dsimp only; rw [hts, hul]; exact ha'⟩, by dsimp only; omega, ?_⟩
    dsimp only
    rw [hts, hul, List.map_append]
    exact Ent.app ent
  · obtain rfl : i = 32 := by omega
    rw [List.take_of_length_le (by omega)] at hfl ha ⊢
    refine go ?_
    refine WO.sv rfl ?_
    refine SV.toStrR rfl (bs := id.flatMap hxb) (by unfold OY; exact RdS.ownS Tk.here ha (by simp)) ?_
    refine go ?_
    exact ⟨rfl, [_], ⟨Res.tmp rfl, trivial⟩, L, ent, rfl, rfl⟩
theorem r3_Text (id : BL) (L : List HP) (hid : id.length = 32) : TriE Tryd.prog 16 #[.agg (id.map u8V).toArray] (fun v M => v = strV (id.flatMap hxb) ∧ M = L) L := by
  have hl16 : hexL.length = 16 := rfl
  have hml : (id.map u8V).length = 32 := by rw [List.length_map, hid]
  refine Tri.of (N := 33) (args := [.agg (id.map u8V).toArray]) Tryd.func16 rfl rfl rfl ?_
  refine go ?_
  intro b1
  refine go ?_
  refine W.loopS 4294967288 rfl (fun i : Nat => [(3, strV ((id.take i).flatMap hxb)), (4, .int .i64 (i : Int))]) (fun _ => pts b1 (.cells (id.map u8V).toArray 39) :: L) (fun i => i ≤ 32) (fun i => 32 - i) 0 ⟨rfl, rfl, trivial⟩ (Nat.zero_le _) (Ent.app ent) ?_
  intro i bg hi
  have hfl := hxf_len (id.take i)
  rw [List.length_take, Nat.min_eq_left (by omega)] at hfl
  by_cases h2 : i < 32
  · have hx : id[i]? = some (id[i]'(by omega)) := List.getElem?_eq_getElem (by omega)
    generalize id[i]'(by omega) = ch at hx
    have hts : (id.take (i + 1)).flatMap hxb = ((id.take i).flatMap hxb ++ [hxc (ch.toNat / 16)]) ++ [hxc (ch.toNat % 16)] := by
      rw [List.take_add_one, hx, Option.toList_some, List.flatMap_append, List.append_assoc]; rfl
    have hch := u8_lt ch
    have hxm : (id.map u8V)[i]? = some (u8V ch) := by rw [List.getElem?_map, hx]; rfl
    generalize hss : (id.take i).flatMap hxb = u at *
    have rdI : ∀ X, RdS 1 (some ⟨b1, 0, none⟩) 32 (id.map u8V) (pts b1 (.cells (id.map u8V).toArray 39) :: X) := fun X => RdS.all (by rw [hml])
    refine go ?_
    refine W.drawA rfl (by kernel_rfl) (by kernel_rfl) ?_
    refine go ?_
    refine DA.q (v := u8V ch) rfl rfl (SV.loadR i rfl (rdI _) (by omega) hxm eqq) ?_
    refine go ?_
    refine DA.q (v := u8V ch) rfl rfl (SV.loadR i rfl (rdI _) (by omega) hxm eqq) ?_
    refine go ?_
    refine DA.q (v := strV [hxc (ch.toNat / 16)]) rfl rfl (SV.cutStr (s := hexL) (l := ch.toNat / 16) (h := ch.toNat / 16 + 1) (s' := [hxc (ch.toNat / 16)]) rfl (cutAt.of rfl (by omega)) (cutAt.of rfl (by omega)) (by omega) (by omega) (hexL_cut ⟨ch.toNat / 16, by omega⟩) eqq) ?_
    refine DA.q (v := strV (u ++ [hxc (ch.toNat / 16)])) rfl rfl (SV.concat rfl rfl (by simp; omega) eqq) ?_
    refine go ?_
    refine DA.q (v := u8V ch) rfl rfl (SV.loadR i rfl (rdI _) (by omega) hxm eqq) ?_
    refine go ?_
    refine DA.q (v := u8V ch) rfl rfl (SV.loadR i rfl (rdI _) (by omega) hxm eqq) ?_
    refine go ?_
    refine DA.q (v := strV [hxc (ch.toNat % 16)]) rfl rfl (SV.cutStr (s := hexL) (l := ch.toNat % 16) (h := ch.toNat % 16 + 1) (s' := [hxc (ch.toNat % 16)]) rfl (cutAt.of rfl (by omega)) (cutAt.of rfl (by omega)) (by omega) (by omega) (hexL_cut ⟨ch.toNat % 16, by omega⟩) eqq) ?_
    refine DA.q (v := strV ((u ++ [hxc (ch.toNat / 16)]) ++ [hxc (ch.toNat % 16)])) rfl rfl (SV.concat rfl rfl (by simp; omega) eqq) ?_
    refine go ?_
    exact ⟨i + 1, ⟨congrArg strV hts.symm, rfl, trivial⟩, rfl, by omega, by omega, Ent.app ent⟩
  · obtain rfl : i = 32 := by omega
    rw [List.take_of_length_le (by omega)] at hfl ⊢
    refine go ?_
    exact ⟨rfl, [_], ⟨Res.tmp rfl, trivial⟩, L, ent, rfl, rfl⟩
end Go.SL

/- Layer 32 (script): what came of an act, as a line, walked. -/
namespace Go.SL
open Go.Proofs
set_option linter.unusedVariables false
set_option linter.unusedSimpArgs false
set_option linter.unusedSectionVars false
set_option maxRecDepth 10000
set_option maxHeartbeats 4000000
attribute [local irreducible] W WO SV OW SW Tri Ent Tk Has Src SrcK DA DB DP RdS Own OwnT MapH

def tdL (code n : Nat) (id : BL) (files : Nat) : List Value := .int .i64 (code : Int) :: .int .i64 (n : Int) :: (id.map u8V ++ [.int .i64 (files : Int)])
def zid : BL := List.replicate 32 0
theorem tdL_len (code n : Nat) (id : BL) (files : Nat) (h : id.length = 32) : (tdL code n id files).length = 35 := by simp [tdL, h]
theorem tdL_id (code n : Nat) (id : BL) (files : Nat) (h : id.length = 32) : lsub (tdL code n id files) 2 32 = id.map u8V := by
  rw [lsub_eq]
  simp [tdL, List.take_append, h]
theorem tdL_files (code n : Nat) (id : BL) (files : Nat) (h : id.length = 32) : (tdL code n id files)[34]? = some (.int .i64 (files : Int)) := by
  simp only [tdL, List.getElem?_cons_succ]
  rw [List.getElem?_append_right (by simp [h])]
  simp [h]
def toldW (code n : Nat) (id : BL) (files : Nat) : List BL := (if code = 0 then [[111, 107]] else [[101, 114, 114, 111, 114], dg code]) ++ (if n = 0 then [] else [[110], dg n]) ++ (if id = zid then [] else [[105, 100], id.flatMap hxb]) ++ (if files = 0 then [] else [[102, 105, 108, 101, 115], dg files])
theorem toldW_ne (code n : Nat) (id : BL) (files : Nat) : toldW code n id files ≠ [] := by
  unfold toldW
  split <;> simp
theorem toldW_small (code n : Nat) (id : BL) (files : Nat) (h1 : code ≤ 1000000000) (h2 : n ≤ 1000000000) (hid : id.length = 32) (h3 : files ≤ 1000000000) : (jn (toldW code n id files)).length ≤ 100000 := by
  have d1 := dg_len20 (n := code) (by omega)
  have d2 := dg_len20 (n := n) (by omega)
  have d3 := dg_len20 (n := files) (by omega)
  have d4 := hxf_len id
  have h := jn_le 100 (toldW code n id files) (fun w hw => by
    unfold toldW at hw
    rcases List.mem_append.1 hw with hw | hw
    · rcases List.mem_append.1 hw with hw | hw
      · rcases List.mem_append.1 hw with hw | hw
        · split at hw
          · simp only [List.mem_singleton] at hw; rw [hw]; decide
          · simp only [List.mem_cons, List.not_mem_nil, or_false] at hw
            rcases hw with rfl | rfl
            · decide
            · omega
        · split at hw
          · cases hw
          · simp only [List.mem_cons, List.not_mem_nil, or_false] at hw
            rcases hw with rfl | rfl
            · decide
            · omega
      · split at hw
        · cases hw
        · simp only [List.mem_cons, List.not_mem_nil, or_false] at hw
          rcases hw with rfl | rfl
          · decide
          · omega
    · split at hw
      · cases hw
      · simp only [List.mem_cons, List.not_mem_nil, or_false] at hw
        rcases hw with rfl | rfl
        · decide
        · omega)
  have hl : (toldW code n id files).length ≤ 8 := by
    unfold toldW
    rw [List.length_append, List.length_append, List.length_append]
    split <;> split <;> split <;> split <;> simp
  have := Nat.mul_le_mul_right 101 hl
  omega
theorem sc_Told (code n : Nat) (id : BL) (files : Nat) (L : List HP) (h1 : code ≤ 1000000000) (h2 : n ≤ 1000000000) (hid : id.length = 32) (h3 : files ≤ 1000000000) :
    TriE Tryd.prog 17 #[.agg (tdL code n id files).toArray] (fun v M => v = strV (jn (toldW code n id files)) ∧ M = L) L := by
  have htl := tdL_len code n id files hid
  have hti := tdL_id code n id files hid
  have htf := tdL_files code n id files hid
  refine Tri.of (N := 42) (args := [.agg (tdL code n id files).toArray]) Tryd.func17 rfl rfl rfl ?_
  refine go ?_
  intro b1
  refine go ?_
  refine WO.sv rfl ?_
  refine SV.lit rfl rfl rfl (Parts.cons (v := .string _) rfl cel Parts.nil) rfl nl ?_
  intro b2
  refine go ?_
  refine WO.sv rfl ?_
  refine SV.neq rfl rfl ?_
  refine goC ?_
  refine W.cut 3848 rfl (fun q : Option Addr × Nat => [(3, .slice q.1 ((if code = 0 then [[111, 107]] else [[101, 114, 114, 111, 114], dg code])).length q.2)]) (fun q => OZ q.1 q.2 ((if code = 0 then [[111, 107]] else [[101, 114, 114, 111, 114], dg code])) :: pts b1 (.cells (tdL code n id files).toArray 42) :: L) (fun q => SomeA q.1 ((if code = 0 then [[111, 107]] else [[101, 114, 114, 111, 114], dg code])).length) ?_ ?_
  · refine W.cond rfl (fun e => ?_) (fun e => ?_)
    · have hne : code ≠ 0 := fun z => by rw [z] at e; cases e
      rw [if_neg hne]
      refine go ?_
      refine WO.callE (vs := [.int .i64 code]) Tryd.func27 rfl rfl rfl rfl (sc_digits code _ (by omega)) ?_
      rintro v M ⟨rfl, rfl⟩
      refine WO.sv rfl ?_
      refine SV.lit rfl rfl rfl (Parts.cons (v := .string _) rfl cel (Parts.cons (v := .string _) rfl cel Parts.nil)) rfl nl ?_
      intro bb
      refine go ?_
      exact ⟨(some ⟨bb, 0, none⟩, 2), ⟨rfl, trivial⟩, rfl, fun _ => ⟨bb, rfl⟩, by unfold OZ; exact Own.ofPts rfl ent⟩
    · have heq : code = 0 := by
        by_cases z : code = 0
        · exact z
        · exfalso; rw [decide_eq_false (show ¬((code : Int) = 0) by omega)] at e; cases e
      rw [if_pos heq]
      refine go ?_
      exact ⟨(some ⟨b2, 0, none⟩, 1), ⟨rfl, trivial⟩, rfl, fun _ => ⟨b2, rfl⟩, by unfold OZ; exact Own.ofPts rfl ent⟩
  rintro ⟨la, lc⟩ bg1 hla
  dsimp only at hla ⊢
  generalize hw1 : (if code = 0 then [[111, 107]] else [[101, 114, 114, 111, 114], dg code]) = w1 at *
  have hl1 : w1.length ≤ 2 := by rw [← hw1]; split <;> simp
  refine go ?_
  refine WO.sv rfl ?_
  refine SV.neq rfl rfl ?_
  refine goC ?_
  refine W.cut 2064392 rfl (fun q : Option Addr × Nat => [(3, .slice q.1 (w1 ++ (if n = 0 then [] else [[110], dg n])).length q.2)]) (fun q => OZ q.1 q.2 (w1 ++ (if n = 0 then [] else [[110], dg n])) :: pts b1 (.cells (tdL code n id files).toArray 42) :: L) (fun q => SomeA q.1 (w1 ++ (if n = 0 then [] else [[110], dg n])).length) ?_ ?_
  · refine W.cond rfl (fun e => ?_) (fun e => ?_)
    · have hne : n ≠ 0 := fun z => by rw [z] at e; cases e
      have hcur : w1 ++ (if n = 0 then [] else [[110], dg n]) = w1 ++ [[110], dg n] := congrArg (w1 ++ ·) (if_neg hne)
      rw [hcur]
      refine go ?_
      refine WO.callE (vs := [.int .i64 n]) Tryd.func27 rfl rfl rfl rfl (sc_digits n _ (by omega)) ?_
      rintro v M ⟨rfl, rfl⟩
      refine WO.sv rfl ?_
      refine SV.lit rfl rfl rfl (Parts.cons (v := .string _) rfl cel (Parts.cons (v := .string _) rfl cel Parts.nil)) rfl nl ?_
      intro bb
      unfold OZ
      refine WO.sv rfl ?_
      refine SV.append rfl rfl rfl (Tk.there Tk.here) (RdS.src (RdS.all (sz := 1) (n := 2) rfl)) rfl rfl (by omega) rfl ?_
      intro a' c' ha'
      refine go ?_
      rw [show (w1 ++ [[110], dg n]).length = (w1).length + 2 by rw [List.length_append]; rfl, List.map_append]
      exact ⟨(a', c'), ⟨rfl, trivial⟩, rfl, ha', ent⟩
    · have heq : n = 0 := by
        by_cases z : n = 0
        · exact z
        · exfalso; rw [decide_eq_false (show ¬((n : Int) = 0) by omega)] at e; cases e
      have hcur : w1 ++ (if n = 0 then [] else [[110], dg n]) = w1 := by rw [if_pos heq, List.append_nil]
      rw [hcur]
      refine go ?_
      exact ⟨(la, lc), ⟨rfl, trivial⟩, rfl, hla, ent⟩
  clear hla
  rintro ⟨la, lc⟩ bg2 hla
  dsimp only at hla ⊢
  generalize hw2 : w1 ++ (if n = 0 then [] else [[110], dg n]) = w2 at *
  have hl2 : w2.length ≤ 4 := by rw [← hw2, List.length_append]; split <;> simp <;> omega
  refine go ?_
  refine WO.sv rfl ?_
  refine SV.loadRN 2 rfl (show RdS 1 (some ⟨b1, 0, none⟩) 35 (tdL code n id files) _ from (RdS.all htl).cons) (by rfl) (by decide) (by rw [htl]; decide) hti ?_
  refine WO.sv rfl ?_
  refine SV.buildArr Parts.nil rfl nl ?_
  refine WO.sv rfl ?_
  refine SV.neqBytes (a := id) (b := zid) rfl rfl Tryd.underlying40 Tryd.underlying5 rfl (by kernel_rfl) (by kernel_rfl) hid rfl ?_
  refine goC ?_
  refine W.cut 2113929224 rfl (fun q : Option Addr × Nat => [(3, .slice q.1 (w2 ++ (if id = zid then [] else [[105, 100], id.flatMap hxb])).length q.2)]) (fun q => OZ q.1 q.2 (w2 ++ (if id = zid then [] else [[105, 100], id.flatMap hxb])) :: pts b1 (.cells (tdL code n id files).toArray 42) :: L) (fun q => SomeA q.1 (w2 ++ (if id = zid then [] else [[105, 100], id.flatMap hxb])).length) ?_ ?_
  · refine W.cond rfl (fun e => ?_) (fun e => ?_)
    · have hne : id ≠ zid := fun z => by rw [decide_eq_true z] at e; cases e
      have hcur : w2 ++ (if id = zid then [] else [[105, 100], id.flatMap hxb]) = w2 ++ [[105, 100], id.flatMap hxb] := congrArg (w2 ++ ·) (if_neg hne)
      rw [hcur]
      refine go ?_
      refine WO.sv rfl ?_
      refine SV.loadRN 2 rfl (show RdS 1 (some ⟨b1, 0, none⟩) 35 (tdL code n id files) _ from (RdS.all htl).cons) (by rfl) (by decide) (by rw [htl]; decide) hti ?_
      refine WO.callE (vs := [.agg (id.map u8V).toArray]) Tryd.func44 rfl rfl rfl rfl (id_Text id _ hid) ?_
      rintro v M ⟨rfl, rfl⟩
      refine WO.sv rfl ?_
      refine SV.lit rfl rfl rfl (Parts.cons (v := .string _) rfl cel (Parts.cons (v := .string _) rfl cel Parts.nil)) rfl nl ?_
      intro bb
      unfold OZ
      refine WO.sv rfl ?_
      refine SV.append rfl rfl rfl (Tk.there Tk.here) (RdS.src (RdS.all (sz := 1) (n := 2) rfl)) rfl rfl (by omega) rfl ?_
      intro a' c' ha'
      refine go ?_
      rw [show (w2 ++ [[105, 100], id.flatMap hxb]).length = w2.length + 2 by rw [List.length_append]; rfl, List.map_append]
      exact ⟨(a', c'), ⟨rfl, trivial⟩, rfl, ha', ent⟩
    · have heq : id = zid := by
        by_cases z : id = zid
        · exact z
        · exfalso; rw [decide_eq_false z] at e; cases e
      have hcur : w2 ++ (if id = zid then [] else [[105, 100], id.flatMap hxb]) = w2 := by rw [if_pos heq, List.append_nil]
      rw [hcur]
      refine go ?_
      exact ⟨(la, lc), ⟨rfl, trivial⟩, rfl, hla, ent⟩
  clear hla
  rintro ⟨la, lc⟩ bg3 hla
  dsimp only at hla ⊢
  generalize hw3 : w2 ++ (if id = zid then [] else [[105, 100], id.flatMap hxb]) = w3 at *
  have hl3 : w3.length ≤ 6 := by rw [← hw3, List.length_append]; split <;> simp <;> omega
  refine go ?_
  refine WO.sv rfl ?_
  refine SV.loadR (v := .int .i64 (files : Int)) 34 rfl (show RdS 1 (some ⟨b1, 0, none⟩) 35 (tdL code n id files) _ from (RdS.all htl).cons) (by rfl) htf ?_
  refine WO.sv rfl ?_
  refine SV.neq rfl rfl ?_
  refine goC ?_
  refine W.cut 1082331758600 rfl (fun q : Option Addr × Nat => [(3, .slice q.1 (w3 ++ (if files = 0 then [] else [[102, 105, 108, 101, 115], dg files])).length q.2)]) (fun q => OZ q.1 q.2 (w3 ++ (if files = 0 then [] else [[102, 105, 108, 101, 115], dg files])) :: pts b1 (.cells (tdL code n id files).toArray 42) :: L) (fun q => SomeA q.1 (w3 ++ (if files = 0 then [] else [[102, 105, 108, 101, 115], dg files])).length) ?_ ?_
  · refine W.cond rfl (fun e => ?_) (fun e => ?_)
    · have hne : files ≠ 0 := fun z => by rw [z] at e; cases e
      have hcur : w3 ++ (if files = 0 then [] else [[102, 105, 108, 101, 115], dg files]) = w3 ++ [[102, 105, 108, 101, 115], dg files] := congrArg (w3 ++ ·) (if_neg hne)
      rw [hcur]
      refine go ?_
      refine WO.sv rfl ?_
      refine SV.loadR (v := .int .i64 (files : Int)) 34 rfl (show RdS 1 (some ⟨b1, 0, none⟩) 35 (tdL code n id files) _ from (RdS.all htl).cons) (by rfl) htf ?_
      refine WO.callE (vs := [.int .i64 files]) Tryd.func27 rfl rfl rfl rfl (sc_digits files _ (by omega)) ?_
      rintro v M ⟨rfl, rfl⟩
      refine WO.sv rfl ?_
      refine SV.lit rfl rfl rfl (Parts.cons (v := .string _) rfl cel (Parts.cons (v := .string _) rfl cel Parts.nil)) rfl nl ?_
      intro bb
      unfold OZ
      refine WO.sv rfl ?_
      refine SV.append rfl rfl rfl (Tk.there Tk.here) (RdS.src (RdS.all (sz := 1) (n := 2) rfl)) rfl rfl (by omega) rfl ?_
      intro a' c' ha'
      refine go ?_
      rw [show (w3 ++ [[102, 105, 108, 101, 115], dg files]).length = w3.length + 2 by rw [List.length_append]; rfl, List.map_append]
      exact ⟨(a', c'), ⟨rfl, trivial⟩, rfl, ha', ent⟩
    · have heq : files = 0 := by
        by_cases z : files = 0
        · exact z
        · exfalso; rw [decide_eq_false (show ¬((files : Int) = 0) by omega)] at e; cases e
      have hcur : w3 ++ (if files = 0 then [] else [[102, 105, 108, 101, 115], dg files]) = w3 := by rw [if_pos heq, List.append_nil]
      rw [hcur]
      refine go ?_
      exact ⟨(la, lc), ⟨rfl, trivial⟩, rfl, hla, ent⟩
  clear hla
  rintro ⟨la, lc⟩ bg4 hla
  dsimp only at hla ⊢
  have hw4 : toldW code n id files = w3 ++ (if files = 0 then [] else [[102, 105, 108, 101, 115], dg files]) := by unfold toldW; rw [hw1, hw2, hw3]
  have hsz := toldW_small code n id files h1 h2 hid h3
  rw [← hw4] at hla ⊢
  have hne := toldW_ne code n id files
  have hpos : (toldW code n id files).length ≠ 0 := fun z => hne (List.length_eq_zero_iff.1 z)
  obtain ⟨lb, rfl⟩ := hla hpos
  refine W.ownCap (show Tk _ (Own 9 1 (.slice (some ⟨lb, 0, none⟩) (toldW code n id files).length lc) (toldW code n id files).length ((toldW code n id files).map strV)) _ from by unfold OZ; exact Tk.here) fun hcap => ?_
  refine go ?_
  refine WO.callE (vs := [.slice (some ⟨lb, 0, none⟩) (toldW code n id files).length lc, strV [32]]) Tryd.func30 rfl rfl rfl rfl (st_Join (toldW code n id files) (some ⟨lb, 0, none⟩) lc _ hne hcap hsz (by unfold OZ; exact RdS.ownS Tk.here (fun _ => ⟨lb, rfl⟩) (by simp))) ?_
  rintro v M ⟨rfl, rfl⟩
  refine go ?_
  exact ⟨rfl, [_], ⟨Res.tmp rfl, trivial⟩, L, ent, rfl, rfl⟩
end Go.SL

/- Layer 32 (script): what came of an act, by the document, walked. -/
namespace Go.SL
open Go.Proofs
set_option linter.unusedVariables false
set_option linter.unusedSimpArgs false
set_option linter.unusedSectionVars false
set_option maxRecDepth 10000
set_option maxHeartbeats 4000000
attribute [local irreducible] W WO SV OW SW Tri Ent Tk Has Src SrcK DA DB DP RdS Own OwnT MapH

def rT1 (code : Nat) : BL := if code = 0 then [111, 107] else [101, 114, 114, 111, 114, 32] ++ dg code
def rT2 (code n : Nat) : BL := if n = 0 then rT1 code else (rT1 code ++ [32, 110, 32]) ++ dg n
def rT3 (code n : Nat) (id : BL) : BL := if id = [] then rT2 code n else (rT2 code n ++ [32, 105, 100, 32]) ++ id
def rT4 (code n : Nat) (id : BL) (files : Nat) : BL := if files = 0 then rT3 code n id else (rT3 code n id ++ [32, 102, 105, 108, 101, 115, 32]) ++ dg files
theorem rT_len (code n : Nat) (id : BL) (h1 : code ≤ 1000000000) (h2 : n ≤ 1000000000) (h : id.length ≤ 64) : (rT1 code).length ≤ 30 ∧ (rT2 code n).length ≤ 60 ∧ (rT3 code n id).length ≤ 200 := by
  have d1 := dg_len20 (n := code) (by omega)
  have d2 := dg_len20 (n := n) (by omega)
  have e1 : (rT1 code).length ≤ 30 := by
    unfold rT1
    split
    · decide
    · simp; omega
  have e2 : (rT2 code n).length ≤ 60 := by
    unfold rT2
    split
    · omega
    · simp; omega
  refine ⟨e1, e2, ?_⟩
  unfold rT3
  split
  · omega
  · simp; omega
theorem rs_Told (code n : Nat) (id : BL) (files : Nat) (L : List HP) (h1 : code ≤ 1000000000) (h2 : n ≤ 1000000000) (h : id.length ≤ 64) (h3 : files ≤ 1000000000) :
    TriE Tryd.prog 18 #[.int .i64 code, .int .i64 n, strV id, .int .i64 files] (fun v M => v = strV (rT4 code n id files) ∧ M = L) L := by
  obtain ⟨l1, l2, l3⟩ := rT_len code n id h1 h2 h
  have d1 := dg_len20 (n := code) (by omega)
  have d2 := dg_len20 (n := n) (by omega)
  have d3 := dg_len20 (n := files) (by omega)
  refine Tri.of (N := 39) (args := [.int .i64 code, .int .i64 n, strV id, .int .i64 files]) Tryd.func18 rfl rfl rfl ?_
  refine go ?_
  refine WO.sv rfl ?_
  refine SV.neq rfl rfl ?_
  refine goC ?_
  refine W.cut 61952 rfl (fun _ : Unit => [(9, strV (rT1 code))]) (fun _ => L) (fun _ => True) ?_ ?_
  · refine W.cond rfl (fun e => ?_) (fun e => ?_)
    · have hne : code ≠ 0 := fun z => by rw [z] at e; cases e
      rw [show rT1 code = [101, 114, 114, 111, 114, 32] ++ dg code from if_neg hne]
      refine go ?_
      refine WO.callE (vs := [.int .u64 code]) Tryd.func42 rfl rfl rfl rfl (rs_digits code _ (by omega)) ?_
      rintro v M ⟨rfl, rfl⟩
      refine WO.sv rfl ?_
      refine SV.concat (a := [101, 114, 114, 111, 114, 32]) (b := dg code) rfl rfl (by simp; omega) ?_
      refine go ?_
      exact ⟨(), ⟨rfl, trivial⟩, rfl, trivial, ent⟩
    · have heq : code = 0 := by
        by_cases z : code = 0
        · exact z
        · exfalso; rw [decide_eq_false (show ¬((code : Int) = 0) by omega)] at e; cases e
      rw [show rT1 code = [111, 107] from if_pos heq]
      refine go ?_
      exact ⟨(), ⟨rfl, trivial⟩, rfl, trivial, ent⟩
  rintro - bg1 -
  refine go ?_
  refine WO.sv rfl ?_
  refine SV.neq rfl rfl ?_
  refine goC ?_
  refine W.cut 16515584 rfl (fun _ : Unit => [(9, strV (rT2 code n))]) (fun _ => L) (fun _ => True) ?_ ?_
  · refine W.cond rfl (fun e => ?_) (fun e => ?_)
    · have hne : n ≠ 0 := fun z => by rw [z] at e; cases e
      rw [show rT2 code n = (rT1 code ++ [32, 110, 32]) ++ dg n from if_neg hne]
      refine go ?_
      refine WO.sv rfl ?_
      refine SV.concat (a := rT1 code) (b := [32, 110, 32]) rfl rfl (by simp; omega) ?_
      refine go ?_
      refine WO.callE (vs := [.int .u64 n]) Tryd.func42 rfl rfl rfl rfl (rs_digits n _ (by omega)) ?_
      rintro v M ⟨rfl, rfl⟩
      refine WO.sv rfl ?_
      refine SV.concat (a := rT1 code ++ [32, 110, 32]) (b := dg n) rfl rfl (by simp; omega) ?_
      refine go ?_
      exact ⟨(), ⟨rfl, trivial⟩, rfl, trivial, ent⟩
    · have heq : n = 0 := by
        by_cases z : n = 0
        · exact z
        · exfalso; rw [decide_eq_false (show ¬((n : Int) = 0) by omega)] at e; cases e
      rw [show rT2 code n = rT1 code from if_pos heq]
      refine go ?_
      exact ⟨(), ⟨rfl, trivial⟩, rfl, trivial, ent⟩
  rintro - bg2 -
  refine go ?_
  refine WO.sv rfl ?_
  refine SV.neqS (a := id) (b := []) rfl rfl ?_
  refine goC ?_
  refine W.cut 1006633472 rfl (fun _ : Unit => [(9, strV (rT3 code n id))]) (fun _ => L) (fun _ => True) ?_ ?_
  · refine W.cond rfl (fun e => ?_) (fun e => ?_)
    · have hne : id ≠ [] := fun z => by rw [decide_eq_true z] at e; cases e
      rw [show rT3 code n id = (rT2 code n ++ [32, 105, 100, 32]) ++ id from if_neg hne]
      refine go ?_
      refine WO.sv rfl ?_
      refine SV.concat (a := rT2 code n) (b := [32, 105, 100, 32]) rfl rfl (by simp; omega) ?_
      refine go ?_
      refine WO.sv rfl ?_
      refine SV.concat (a := rT2 code n ++ [32, 105, 100, 32]) (b := id) rfl rfl (by simp; omega) ?_
      refine go ?_
      exact ⟨(), ⟨rfl, trivial⟩, rfl, trivial, ent⟩
    · have heq : id = [] := by
        by_cases z : id = []
        · exact z
        · exfalso; rw [decide_eq_false z] at e; cases e
      rw [show rT3 code n id = rT2 code n from if_pos heq]
      refine go ?_
      exact ⟨(), ⟨rfl, trivial⟩, rfl, trivial, ent⟩
  rintro - bg3 -
  refine go ?_
  refine WO.sv rfl ?_
  refine SV.neq rfl rfl ?_
  refine goC ?_
  refine W.cut 270582940160 rfl (fun _ : Unit => [(9, strV (rT4 code n id files))]) (fun _ => L) (fun _ => True) ?_ ?_
  · refine W.cond rfl (fun e => ?_) (fun e => ?_)
    · have hne : files ≠ 0 := fun z => by rw [z] at e; cases e
      rw [show rT4 code n id files = (rT3 code n id ++ [32, 102, 105, 108, 101, 115, 32]) ++ dg files from if_neg hne]
      refine go ?_
      refine WO.sv rfl ?_
      refine SV.concat (a := rT3 code n id) (b := [32, 102, 105, 108, 101, 115, 32]) rfl rfl (by simp; omega) ?_
      refine go ?_
      refine WO.callE (vs := [.int .u64 files]) Tryd.func42 rfl rfl rfl rfl (rs_digits files _ (by omega)) ?_
      rintro v M ⟨rfl, rfl⟩
      refine WO.sv rfl ?_
      refine SV.concat (a := rT3 code n id ++ [32, 102, 105, 108, 101, 115, 32]) (b := dg files) rfl rfl (by simp; omega) ?_
      refine go ?_
      exact ⟨(), ⟨rfl, trivial⟩, rfl, trivial, ent⟩
    · have heq : files = 0 := by
        by_cases z : files = 0
        · exact z
        · exfalso; rw [decide_eq_false (show ¬((files : Int) = 0) by omega)] at e; cases e
      rw [show rT4 code n id files = rT3 code n id from if_pos heq]
      refine go ?_
      exact ⟨(), ⟨rfl, trivial⟩, rfl, trivial, ent⟩
  rintro - bg4 -
  refine go ?_
  exact ⟨rfl, [_], ⟨Res.tmp rfl, trivial⟩, L, ent, rfl, rfl⟩
theorem jn_app2 {l : List BL} {a b : BL} (h : l ≠ []) : jn (l ++ [a, b]) = ((jn l ++ 32 :: a) ++ [32]) ++ b := by
  rw [show l ++ [a, b] = (l ++ [a]) ++ [b] by simp, jn_snoc _ _ (by simp), jn_snoc _ _ h]; simp
theorem told_same (code n : Nat) (id : BL) (files : Nat) (h : id.length = 32) : rT4 code n (if id = zid then [] else id.flatMap hxb) files = jn (toldW code n id files) := by
  have hne : id.flatMap hxb ≠ [] := fun z => by
    have := hxf_len id
    rw [z] at this
    simp at this; omega
  have e1 : jn (if code = 0 then [[111, 107]] else [[101, 114, 114, 111, 114], dg code]) = rT1 code := by
    unfold rT1
    split <;> rfl
  have n1 : (if code = 0 then [[111, 107]] else [[101, 114, 114, 111, 114], dg code] : List BL) ≠ [] := by split <;> simp
  unfold toldW
  generalize (if code = 0 then [[111, 107]] else [[101, 114, 114, 111, 114], dg code] : List BL) = w1 at *
  have e2 : jn (w1 ++ (if n = 0 then [] else [[110], dg n])) = rT2 code n := by
    unfold rT2
    by_cases z : n = 0
    · rw [if_pos z, if_pos z, List.append_nil, e1]
    · rw [if_neg z, if_neg z, jn_app2 n1, e1]; simp
  have n2 : w1 ++ (if n = 0 then [] else [[110], dg n]) ≠ [] := by simp [n1]
  generalize w1 ++ (if n = 0 then [] else [[110], dg n]) = w2 at *
  have e3 : jn (w2 ++ (if id = zid then [] else [[105, 100], id.flatMap hxb])) = rT3 code n (if id = zid then [] else id.flatMap hxb) := by
    unfold rT3
    by_cases z : id = zid
    · rw [if_pos z, if_pos z, if_pos rfl, List.append_nil, e2]
    · rw [if_neg z, if_neg z, if_neg hne, jn_app2 n2, e2]; simp
  have n3 : w2 ++ (if id = zid then [] else [[105, 100], id.flatMap hxb]) ≠ [] := by simp [n2]
  generalize w2 ++ (if id = zid then [] else [[105, 100], id.flatMap hxb]) = w3 at *
  unfold rT4
  by_cases z : files = 0
  · rw [if_pos z, if_pos z, List.append_nil, e3]
  · rw [if_neg z, if_neg z, jn_app2 n3, e3]; simp
end Go.SL

/- Layer 32 (script): a line that is known, walked. -/
namespace Go.SL
open Go.Proofs
set_option linter.unusedVariables false
set_option linter.unusedSimpArgs false
set_option linter.unusedSectionVars false
set_option maxRecDepth 10000
set_option maxHeartbeats 4000000
attribute [local irreducible] W WO SV OW SW Tri Ent Tk Has Src SrcK DA DB DP RdS Own OwnT MapH

theorem Ac.text_inj {A B : Ac} (hA : A.right) (hB : B.right) (e : A.text = B.text) : A.clean = B.clean :=
  (Ac.same hA ⟨hB.1, hB.2.1⟩ hB.2.2.1 (fun z => (hB.2.2.2.2 z).2) (jn_uniq A.ws_ne B.ws_ne (A.ws_blank ⟨hA.1, hA.2.1⟩) (B.ws_blank ⟨hB.1, hB.2.1⟩) e)).2
theorem dg_0 : dg 0 = [48] := by rw [dg_lt (by decide)]; rfl
theorem dg_1 : dg 1 = [49] := by rw [dg_lt (by decide)]; rfl
theorem dg_2 : dg 2 = [50] := by rw [dg_lt (by decide)]; rfl
theorem dg_3 : dg 3 = [51] := by rw [dg_lt (by decide)]; rfl
theorem dg_7 : dg 7 = [55] := by rw [dg_lt (by decide)]; rfl
theorem dg_50 : dg 50 = [53, 48] := by rw [dg_ge (by decide), dg_lt (by decide)]; rfl
theorem dg_256 : dg 256 = [50, 53, 54] := by rw [dg_ge (by decide), dg_ge (by decide), dg_lt (by decide)]; rfl
def acA : Ac := ⟨6, [0, 50, 3, 1, 0], [[], []], []⟩
def acB : Ac := ⟨12, [0, 0, 0, 0, 0], [[], []], [256, 7]⟩
theorem acA_right : acA.right := ⟨by decide, by decide, by decide, fun j hj => absurd hj (by simp [acA, ntx]), fun z => absurd z (by decide)⟩
theorem acB_right : acB.right := ⟨by decide, by decide, by decide, fun j hj => absurd hj (by simp [acB, ntx]), fun _ => ⟨by decide, by decide⟩⟩
theorem acA_text : acA.text = [115, 112, 111, 105, 108, 32, 51, 32, 53, 48, 32, 49] := by
  show jn [[115, 112, 111, 105, 108], dg 3, dg 50, dg 1] = _
  rw [dg_3, dg_50, dg_1]; rfl
theorem acB_text : acB.text = [102, 97, 108, 108, 32, 48, 32, 50, 53, 54, 32, 55] := by
  show jn [[102, 97, 108, 108], dg 0, dg 256, dg 7] = _
  rw [dg_0, dg_256, dg_7]; rfl
theorem acA_clean : acA.clean = acA := rfl
theorem acB_clean : acB.clean = acB := rfl
instance : TZ Tryd.prog 42 (tdL 0 0 zid 0) := ⟨by kernel_rfl⟩
theorem ls_one (L : List HP) : TriE Tryd.prog 12 #[] (fun v M => v = .bool true ∧ M = L) L := by
  refine Tri.of (N := 35) (args := []) Tryd.func12 rfl rfl rfl ?_
  refine go ?_
  refine WO.callE (vs := [strV [115, 112, 111, 105, 108, 32, 51, 32, 53, 48, 32, 49]]) Tryd.func13 rfl rfl rfl rfl (sc_Parse _ _ (by decide)) ?_
  rintro v M (⟨B, a, c, rfl, hr, hb, hcl, htx, sa, rfl⟩ | ⟨_, hno, _⟩)
  rotate_left
  · exact absurd acA_text (hno acA acA_right)
  obtain rfl : B = acA := by
    have := Ac.text_inj hr acA_right (by rw [htx, acA_text])
    rw [hcl, acA_clean] at this
    exact this
  unfold acV
  refine go ?_
  intro b1
  refine go ?_
  refine WO.callE (vs := [strV [102, 97, 108, 108, 32, 48, 32, 50, 53, 54, 32, 55]]) Tryd.func13 rfl rfl rfl rfl (sc_Parse _ _ (by decide)) ?_
  rintro v M (⟨B, a2, c2, rfl, hr, hb, hcl, htx, sa2, rfl⟩ | ⟨_, hno, _⟩)
  rotate_left
  · exact absurd acB_text (hno acB acB_right)
  obtain rfl : B = acB := by
    have := Ac.text_inj hr acB_right (by rw [htx, acB_text])
    rw [hcl, acB_clean] at this
    exact this
  unfold acV
  refine go ?_
  intro b3
  refine go ?_
  refine WO.callE (vs := [acV acA a c, acV acA none 0]) Tryd.func15 rfl rfl rfl rfl (ls_Same acA a none c 0 _ (by decide) RdS.nil RdS.nil) ?_
  rintro v M ⟨rfl, rfl⟩
  refine go ?_
  have htl : ∀ j, (acB.ts.getD j []).length ≤ 1000000000 := fun j => by
    match j with
    | 0 => decide
    | 1 => decide
    | _ + 2 => exact Nat.zero_le _
  refine WO.callE (vs := [acV acB a2 c2]) Tryd.func8 rfl rfl rfl rfl (sc_Text acB a2 c2 _ (by decide) htl (by unfold OK2; exact RdS.ownS tk sa2 rfl)) ?_
  rintro v M ⟨⟨s, rfl, hs, _⟩, rfl⟩
  have hs2 := hs acB_right
  rw [acB_text] at hs2
  subst hs2
  refine go ?_
  refine WO.sv rfl ?_
  refine SV.eqlST (a := [102, 97, 108, 108, 32, 48, 32, 50, 53, 54, 32, 55]) (b := [102, 97, 108, 108, 32, 48, 32, 50, 53, 54, 32, 55]) rfl rfl rfl ?_
  refine go ?_
  refine WO.callE (vs := [.agg (tdL 0 2 zid 0).toArray]) Tryd.func17 rfl rfl rfl rfl (sc_Told 0 2 zid 0 _ (by decide) (by decide) rfl (by decide)) ?_
  rintro v M ⟨rfl, rfl⟩
  have ht : jn (toldW 0 2 zid 0) = [111, 107, 32, 110, 32, 50] := by
    show jn [[111, 107], [110], dg 2] = _
    rw [dg_2]; rfl
  rw [ht]
  refine go ?_
  refine WO.sv rfl ?_
  refine SV.eqlST (a := [111, 107, 32, 110, 32, 50]) (b := [111, 107, 32, 110, 32, 50]) rfl rfl rfl ?_
  refine go ?_
  exact ⟨rfl, [_], ⟨Res.tmp rfl, trivial⟩, L, ent, rfl, rfl⟩
end Go.SL

/- Layer 32: the law ScriptReads, walked. -/
namespace Go.SL
open Go.Proofs
set_option linter.unusedVariables false
set_option linter.unusedSimpArgs false
set_option linter.unusedSectionVars false
set_option maxRecDepth 10000
set_option maxHeartbeats 4000000
attribute [local irreducible] W WO SV OW SW Tri Ent Tk Has Src SrcK DA DB DP RdS Own OwnT MapH

theorem Ac.small {A : Ac} (h : A.right) (hb : A.bare) : A.ks.length ≤ 1000000 ∧ ∀ j, (A.ts.getD j []).length ≤ 1000000000 := by
  refine ⟨?_, fun j => ?_⟩
  · by_cases z : A.k = 12
    · have := (h.2.2.2.2 z).1; omega
    · rw [hb.2.2.2 z]; simp
  · by_cases z : j < ntx A.k
    · have := h.2.2.2.1 j z; omega
    · rw [hb.2.2.1 j (by omega)]; simp
theorem ls_Reads (s : BL) (L : List HP) (hs : s.length ≤ 9223372036854775807) : TriE Tryd.prog 4 #[strV s] (fun v M => v = .bool true ∧ M = L) L := by
  refine Tri.of (N := 52) (args := [strV s]) Tryd.func4 rfl rfl rfl ?_
  by_cases h1 : 1500 < s.length
  · refine go ?_
    exact ⟨rfl, [_], ⟨Res.tmp rfl, trivial⟩, L, ent, rfl, rfl⟩
  refine go ?_
  refine WO.callE (vs := [strV s]) Tryd.func13 rfl rfl rfl rfl (sc_Parse s _ (by omega)) ?_
  rintro v M (⟨B, a, c, rfl, hr, hb, hcl, htx, sa, rfl⟩ | ⟨rfl, hno, rfl⟩)
  rotate_left
  · unfold acV
    refine go ?_
    intro b3
    refine go ?_
    refine WO.callE (vs := [acV acZ none 0, acV acZ none 0]) Tryd.func15 rfl rfl rfl rfl (ls_Same acZ none none 0 0 _ (by decide) RdS.nil RdS.nil) ?_
    rintro v M ⟨rfl, rfl⟩
    refine go ?_
    refine WO.callE (vs := []) Tryd.func12 rfl rfl rfl rfl (ls_one _) ?_
    rintro v M ⟨rfl, rfl⟩
    refine go ?_
    exact ⟨rfl, [_], ⟨Res.tmp rfl, trivial⟩, _, ent, rfl, rfl⟩
  obtain ⟨hk, ht⟩ := Ac.small hr hb
  unfold acV
  refine go ?_
  intro b3
  refine go ?_
  have rdk : ∀ X Y, RdS 1 a B.ks.length (zv B.ks) (X :: OK2 a c B.ks :: Y) := fun X Y => by unfold OK2; exact RdS.ownS (Tk.there Tk.here) sa (zv_len _)
  refine W.drawB #[0, 1, 3, 7, 15, 31, 63, 15, 255, 511, 1023, 2047, 4095, 2047, 16383, 32767, 65535, 131071, 131071, 393215, 1048575, 2097151, 4194303, 8388607, 16777215, 33554431, 67108863]
    [pts b3 (.cells (acL B.k B.ns B.ts (.slice a B.ks.length c)).toArray 24)] (OK2 a c B.ks :: L) rfl (by kernel_rfl) (by kernel_rfl) (by kernel_rfl) ent ?_
  refine go ?_
  refine DB.callE (vs := [acV B a c]) Tryd.func7 rfl rfl rfl rfl hl hl (ls_Own B a c _) ?_
  rintro v M ⟨rfl, rfl⟩
  refine ⟨[], OK2 a c B.ks :: L, ent, ?_⟩
  refine DB.callE (vs := [acV B a c]) Tryd.func11 rfl rfl rfl rfl hl hl (rs_Right B a c _ hk ht (rdk _ _)) ?_
  rintro v M ⟨⟨t, rfl, htr⟩, rfl⟩
  obtain rfl : t = true := htr.2 hr
  refine ⟨[], OK2 a c B.ks :: L, ent, ?_⟩
  refine go ?_
  refine DB.callE (vs := [acV B a c]) Tryd.func7 rfl rfl rfl rfl hl hl (ls_Own B a c _) ?_
  rintro v M ⟨rfl, rfl⟩
  refine ⟨[], OK2 a c B.ks :: L, ent, ?_⟩
  refine DB.callE (vs := [acV B a c]) Tryd.func14 rfl rfl rfl rfl hl hl (rs_Text B a c _ hr hk (rdk _ _)) ?_
  rintro v M ⟨rfl, rfl⟩
  rw [htx]
  refine ⟨[], OK2 a c B.ks :: L, ent, ?_⟩
  refine go ?_
  refine DB.q (v := .bool true) rfl rfl hl (SV.eqlST (a := s) (b := s) rfl rfl rfl eqq) ?_
  refine go ?_
  refine DB.callE (vs := [acV B a c]) Tryd.func8 rfl rfl rfl rfl hl hl (sc_Text B a c _ hk ht (rdk _ _)) ?_
  rintro v M ⟨⟨s2, rfl, hs2, _⟩, rfl⟩
  obtain rfl : s2 = s := by rw [hs2 hr, htx]
  refine ⟨[], OK2 a c B.ks :: L, ent, ?_⟩
  refine go ?_
  refine DB.q (v := .bool true) rfl rfl hl (SV.eqlST (a := s2) (b := s2) rfl rfl rfl eqq) ?_
  refine go ?_
  refine DB.callE (vs := [acV B a c]) Tryd.func9 rfl rfl rfl rfl hl hl (sc_Clean B a c _ hk (rdk _ _)) ?_
  rintro v M ⟨a2, c2, rfl, sa2, rfl⟩
  rw [hcl] at sa2 ⊢
  refine ⟨[], OK2 a2 c2 B.ks :: OK2 a c B.ks :: L, ent, ?_⟩
  refine DB.callE (vs := [acV B a c, acV B a2 c2]) Tryd.func15 rfl rfl rfl rfl hl hl (ls_Same B a a2 c c2 _ hk (by unfold OK2; exact RdS.ownS (Tk.there (Tk.there Tk.here)) sa (zv_len _)) (by unfold OK2; exact RdS.ownS (Tk.there Tk.here) sa2 (zv_len _))) ?_
  rintro v M ⟨rfl, rfl⟩
  refine ⟨[], OK2 a2 c2 B.ks :: OK2 a c B.ks :: L, ent, ?_⟩
  refine go ?_
  refine DB.callE (vs := []) Tryd.func12 rfl rfl rfl rfl hl hl (ls_one _) ?_
  rintro v M ⟨rfl, rfl⟩
  refine ⟨[], L, ent, ?_⟩
  refine go ?_
  refine ⟨L, ent, ?_⟩
  refine go ?_
  exact ⟨rfl, [_], ⟨Res.tmp rfl, trivial⟩, L, ent, rfl, rfl⟩
end Go.SL

/- Layer 32: the law ScriptLines, walked. -/
namespace Go.SL
open Go.Proofs
set_option linter.unusedVariables false
set_option linter.unusedSimpArgs false
set_option linter.unusedSectionVars false
set_option maxRecDepth 10000
set_option maxHeartbeats 4000000
attribute [local irreducible] W WO SV OW SW Tri Ent Tk Has Src SrcK DA DB DP RdS Own OwnT MapH

theorem Ac.clean_clean (A : Ac) : A.clean.clean = A.clean := by
  have hb := A.clean_bare
  refine Ac.clean_self hb.1 (fun j hj => ?_) hb.2.1 hb.2.2.1 hb.2.2.2
  replace hj : j ∉ pidx A.k := hj
  by_cases h : j < 5
  · rw [Ac.rg_get _ _ _ _ h, if_neg hj]
  · rw [List.getD_eq_getElem?_getD, List.getElem?_eq_none (by simp; omega)]; rfl
theorem Ac.text_clean (A : Ac) : A.clean.text = A.text := by unfold Ac.text; rw [Ac.ws_clean]
theorem ls_Lines (A : Ac) (ka : Option Addr) (kc : Nat) (L : List HP) (ht2 : A.ts.length = 2) (hk0 : A.ks.length ≤ 9223372036854775807) (ht0 : ∀ j, (A.ts.getD j []).length ≤ 9223372036854775807) (r : RdS 1 ka A.ks.length (zv A.ks) L) :
    TriE Tryd.prog 3 #[acV A ka kc] (fun v M => v = .bool true ∧ M = L) L := by
  have hri := A.right_clean
  have hba := A.clean_bare
  have hcc := A.clean_clean
  have htc := A.text_clean
  have hcks : A.clean.ks.length ≤ A.ks.length := by
    unfold Ac.clean
    dsimp only
    split
    · exact Nat.le_refl _
    · simp
  have q0 := ht0 0
  have q1 := ht0 1
  refine Tri.of (N := 72) (args := [acV A ka kc]) Tryd.func3 rfl rfl rfl ?_
  by_cases h1 : 400 < (A.ts.getD 0 []).length
  · unfold acV acL
    refine go ?_
    intro b1
    refine go ?_
    exact ⟨rfl, [_], ⟨Res.tmp rfl, trivial⟩, L, ent, rfl, rfl⟩
  by_cases h2 : 400 < (A.ts.getD 1 []).length
  · unfold acV acL
    refine go ?_
    intro b1
    refine go ?_
    exact ⟨rfl, [_], ⟨Res.tmp rfl, trivial⟩, L, ent, rfl, rfl⟩
  by_cases h3 : 200 < A.ks.length
  · unfold acV acL
    refine go ?_
    intro b1
    refine go ?_
    exact ⟨rfl, [_], ⟨Res.tmp rfl, trivial⟩, L, ent, rfl, rfl⟩
  have hk : A.ks.length ≤ 1000000 := by omega
  have ht : ∀ j, (A.ts.getD j []).length ≤ 1000000000 := fun j => by
    match j with
    | 0 => omega
    | 1 => omega
    | j + 2 => rw [List.getD_eq_getElem?_getD, List.getElem?_eq_none (by omega)]; simp
  unfold acV
  refine go ?_
  intro b1
  refine go ?_
  refine WO.callE (vs := [acV A ka kc]) Tryd.func7 rfl rfl rfl rfl (ls_Own A ka kc _) ?_
  rintro v M ⟨rfl, rfl⟩
  unfold acV
  refine go ?_
  intro b3
  refine go ?_
  refine WO.callE (vs := [acV A ka kc]) Tryd.func8 rfl rfl rfl rfl (sc_Text A ka kc _ hk ht r.cons.cons) ?_
  rintro v M ⟨⟨s, rfl, hs1, hs2⟩, rfl⟩
  refine go ?_
  refine WO.callE (vs := [acV A ka kc]) Tryd.func9 rfl rfl rfl rfl (sc_Clean A ka kc _ hk r.cons.cons) ?_
  rintro v M ⟨a, c, rfl, sa, rfl⟩
  unfold acV
  refine go ?_
  intro b5
  refine go ?_
  refine W.drawB #[0, 1, 0, 7, 15] [pts b1 (.cells (acL A.k A.ns A.ts (.slice ka A.ks.length kc)).toArray 24), pts b3 (.cells (acL A.k A.ns A.ts (.slice ka A.ks.length kc)).toArray 27), pts b5 (.cells (acL A.clean.k A.clean.ns A.clean.ts (.slice a A.clean.ks.length c)).toArray 24)] (OK2 a c A.clean.ks :: L) rfl (by kernel_rfl) (by kernel_rfl) (by kernel_rfl) ent ?_
  refine go ?_
  refine DB.callE (vs := [acV A ka kc]) Tryd.func10 rfl rfl rfl rfl hl hl (sc_Right A ka kc _ hk ht r.cons.cons.cons.cons) ?_
  rintro v M ⟨⟨t1, rfl, ht1⟩, rfl⟩
  refine ⟨[], OK2 a c A.clean.ks :: L, ent, ?_⟩
  refine go ?_
  refine DB.callE (vs := [acV A ka kc]) Tryd.func11 rfl rfl rfl rfl hl hl (rs_Right A ka kc _ hk ht r.cons.cons.cons.cons) ?_
  rintro v M ⟨⟨t2, rfl, ht2'⟩, rfl⟩
  obtain rfl : t1 = t2 := by
    have e : t1 = true ↔ t2 = true := by rw [ht1, ht2']
    cases t1 <;> cases t2 <;> simp at e ⊢
  refine ⟨[], OK2 a c A.clean.ks :: L, ent, ?_⟩
  have IT : True := trivial
  cases t1 with
  | false =>
    have hnr : ¬A.right := fun z => by have := ht1.2 z; cases this
    obtain rfl := hs2 hnr
    refine go ?_
    refine ⟨pts b1 (.cells (acL A.k A.ns A.ts (.slice ka A.ks.length kc)).toArray 24) :: pts b3 (.cells (acL A.k A.ns A.ts (.slice ka A.ks.length kc)).toArray 27) :: pts b5 (.cells (acL A.clean.k A.clean.ns A.clean.ts (.slice a A.clean.ks.length c)).toArray 24) :: OK2 a c A.clean.ks :: L, ent, ?_⟩
    refine go ?_
    refine WO.callE (vs := [acV A ka kc]) Tryd.func11 rfl rfl rfl rfl (rs_Right A ka kc _ hk ht r.cons.cons.cons.cons) ?_
    rintro v M ⟨⟨t3, rfl, ht3⟩, rfl⟩
    obtain rfl : t3 = false := by
      cases t3 with
      | false => rfl
      | true => exact absurd (ht3.1 rfl) hnr
    refine go ?_
    refine WO.sv rfl ?_
    refine SV.eqlST (a := []) (b := []) rfl rfl rfl ?_
    refine go ?_
    refine WO.callE (vs := []) Tryd.func12 rfl rfl rfl rfl (ls_one _) ?_
    rintro v M ⟨rfl, rfl⟩
    refine go ?_
    exact ⟨rfl, [_], ⟨Res.tmp rfl, trivial⟩, L, ent, rfl, rfl⟩
  | true =>
    have hR := ht1.1 rfl
    obtain rfl := hs1 hR
    have hRc := hri.2 hR
    obtain ⟨hk5, ht5⟩ := Ac.small hRc hba
    have hwl := Ac.ws_len hR
    refine go ?_
    refine ⟨pts b1 (.cells (acL A.k A.ns A.ts (.slice ka A.ks.length kc)).toArray 24) :: pts b3 (.cells (acL A.k A.ns A.ts (.slice ka A.ks.length kc)).toArray 27) :: pts b5 (.cells (acL A.clean.k A.clean.ns A.clean.ts (.slice a A.clean.ks.length c)).toArray 24) :: OK2 a c A.clean.ks :: L, ent, ?_⟩
    refine go ?_
    refine WO.callE (vs := [acV A ka kc]) Tryd.func11 rfl rfl rfl rfl (rs_Right A ka kc _ hk ht r.cons.cons.cons.cons) ?_
    rintro v M ⟨⟨t3, rfl, ht3⟩, rfl⟩
    obtain rfl : t3 = true := ht3.2 hR
    refine go ?_
    refine WO.callE (vs := [strV A.text]) Tryd.func13 rfl rfl rfl rfl (sc_Parse A.text _ hwl) ?_
    rintro v M (⟨B, a6, c6, rfl, hr6, hb6, hcl6, htx6, sa6, rfl⟩ | ⟨_, hno, _⟩)
    rotate_left
    · exact absurd rfl (hno A hR)
    obtain rfl : B = A.clean := by
      have := Ac.text_inj hr6 hR htx6
      rw [hcl6] at this
      exact this
    unfold acV
    refine go ?_
    intro b6
    refine go ?_
    refine WO.callE (vs := [acV A ka kc]) Tryd.func14 rfl rfl rfl rfl (rs_Text A ka kc _ hR hk r.cons.cons.cons.cons.cons.cons) ?_
    rintro v M ⟨rfl, rfl⟩
    refine WO.sv rfl ?_
    refine SV.eqlST (a := A.text) (b := A.text) rfl rfl rfl ?_
    refine go ?_
    refine WO.callE (vs := [acV A.clean a6 c6, acV A.clean a c]) Tryd.func15 rfl rfl rfl rfl (ls_Same A.clean a6 a c6 c _ hk5 (by unfold OK2; exact RdS.ownS tk sa6 (zv_len _)) (by unfold OK2; exact RdS.ownS tk sa (zv_len _))) ?_
    rintro v M ⟨rfl, rfl⟩
    refine go ?_
    refine WO.callE (vs := [acV A.clean a c]) Tryd.func7 rfl rfl rfl rfl (ls_Own A.clean a c _) ?_
    rintro v M ⟨rfl, rfl⟩
    refine go ?_
    refine WO.callE (vs := [acV A.clean a c]) Tryd.func14 rfl rfl rfl rfl (rs_Text A.clean a c _ hRc hk5 (by unfold OK2; exact RdS.ownS tk sa (zv_len _))) ?_
    rintro v M ⟨rfl, rfl⟩
    rw [htc]
    refine go ?_
    refine WO.sv rfl ?_
    refine SV.eqlST (a := A.text) (b := A.text) rfl rfl rfl ?_
    refine go ?_
    refine WO.callE (vs := []) Tryd.func12 rfl rfl rfl rfl (ls_one _) ?_
    rintro v M ⟨rfl, rfl⟩
    refine go ?_
    exact ⟨rfl, [_], ⟨Res.tmp rfl, trivial⟩, L, ent, rfl, rfl⟩
end Go.SL
