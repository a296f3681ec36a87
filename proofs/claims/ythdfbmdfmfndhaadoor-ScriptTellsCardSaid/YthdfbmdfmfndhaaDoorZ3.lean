/- Layer 32: the law ScriptTells, walked. -/
import Derived.Test.YthdfbmdfmfndhaaDoorSlU
import Derived.Test.YthdfbmdfmfndhaaDoorZ2
namespace Go.SL
open Go.Proofs
set_option linter.unusedVariables false
set_option linter.unusedSimpArgs false
set_option linter.unusedSectionVars false
set_option maxRecDepth 10000
set_option maxHeartbeats 4000000
attribute [local irreducible] W WO SV OW SW Tri Ent Tk Has Src SrcK DA DB DP RdS Own OwnT MapH

def tdG (code n : Int) (id : BL) (files : Int) : List Value := .int .i64 code :: .int .i64 n :: (id.map u8V ++ [.int .i64 files])
theorem tdG_len (code n : Int) (id : BL) (files : Int) (h : id.length = 32) : (tdG code n id files).length = 35 := by simp [tdG, h]
theorem tdG_files (code n : Int) (id : BL) (files : Int) (h : id.length = 32) : (tdG code n id files)[34]? = some (.int .i64 files) := by
  simp only [tdG, List.getElem?_cons_succ]
  rw [List.getElem?_append_right (by simp [h])]
  simp [h]
theorem tdG_set (code n : Int) (id : BL) (files x : Int) (h : id.length = 32) : (tdG code n id files).set 34 (.int .i64 x) = tdG code n id x := by
  unfold tdG
  simp only [List.set_cons_succ]
  rw [List.set_append_right _ _ (by simp [h])]
  simp [h]
theorem tdG_nat (code n : Nat) (id : BL) (files : Nat) : tdG code n id files = tdL code n id files := rfl
theorem ls_Tells (code n : Int) (id : BL) (files : Int) (L : List HP) (hid : id.length = 32) : TriE Tryd.prog 5 #[.agg (tdG code n id files).toArray] (fun v M => v = .bool true ∧ M = L) L := by
  obtain ⟨n1, hn1, en1⟩ := i64_mask n 16777215 (by decide)
  obtain ⟨f1, hf1, ef1⟩ := i64_mask files 16777215 (by decide)
  obtain ⟨c1, hc1, ec1⟩ := i64_mask code 255 (by decide)
  have hlen := fun a b c => tdG_len a b id c hid
  have hg := fun a b c => tdG_files a b id c hid
  have hset := fun a b c x => tdG_set a b id c x hid
  refine Tri.of (N := 37) (args := [.agg (tdG code n id files).toArray]) Tryd.func5 rfl rfl rfl ?_
  refine go ?_
  intro b1
  refine go ?_
  refine WO.sv rfl ?_
  refine SV.band rfl rfl en1 ?_
  refine go ?_
  refine WO.sv rfl ?_
  refine SV.storeS (v := .int .i64 (n1 : Int)) rfl rfl rfl (.inl (Nat.le_refl _)) (by rw [hlen]; omega) ?_
  rw [show (tdG code n id files).set (0 + 1) (.int .i64 (n1 : Int)) = tdG code n1 id files from rfl]
  refine go ?_
  refine WO.sv rfl ?_
  refine SV.loadR (v := .int .i64 files) 34 rfl (RdS.all (sz := 1) (n := 35) (hlen code n1 files)) (by rfl) (hg code n1 files) ?_
  refine WO.sv rfl ?_
  refine SV.band rfl rfl ef1 ?_
  refine go ?_
  refine WO.sv rfl ?_
  refine SV.storeS (v := .int .i64 (f1 : Int)) rfl rfl rfl (.inl (Nat.le_refl _)) (by rw [hlen]; omega) ?_
  rw [show 0 + 34 = 34 from rfl, hset]
  refine go ?_
  refine WO.sv rfl ?_
  refine SV.band rfl rfl ec1 ?_
  refine go ?_
  refine WO.sv rfl ?_
  refine SV.storeS (v := .int .i64 (c1 : Int)) rfl rfl rfl (.inl (Nat.le_refl _)) (by rw [hlen]; omega) ?_
  rw [show (tdG code n1 id f1).set 0 (.int .i64 (c1 : Int)) = tdL c1 n1 id f1 from rfl]
  have htl := tdL_len c1 n1 id f1 hid
  have hti := tdL_id c1 n1 id f1 hid
  have htf := tdL_files c1 n1 id f1 hid
  have hsame := told_same c1 n1 id f1 hid
  refine go ?_
  refine WO.sv rfl ?_
  refine SV.loadRN 2 rfl (RdS.all (sz := 1) (n := 35) htl) (by rfl) (by decide) (by rw [htl]; decide) hti ?_
  refine WO.sv rfl ?_
  refine SV.buildArr Parts.nil rfl nl ?_
  refine WO.sv rfl ?_
  refine SV.neqBytes (a := id) (b := zid) rfl rfl Tryd.underlying40 Tryd.underlying5 rfl (by kernel_rfl) (by kernel_rfl) hid rfl ?_
  by_cases hz : id = zid
  · rw [decide_eq_true hz]
    rw [if_pos hz] at hsame
    refine go ?_
    refine W.drawB #[0, 1, 0, 4, 0, 16, 0, 0, 128, 511, 1023, 2047, 4095, 8191, 16383] [pts b1 (.cells (tdL c1 n1 id f1).toArray 42)] L rfl (by kernel_rfl) (by kernel_rfl) (by kernel_rfl) ent ?_
    refine DB.q (v := .agg (tdL c1 n1 id f1).toArray) rfl rfl hl (SV.loadN (vs := tdL c1 n1 id f1) rfl (sub_full htl) (by rw [htl]; decide) eqq) ?_
    refine DB.callE (vs := [.agg (tdL c1 n1 id f1).toArray]) Tryd.func17 rfl rfl rfl rfl hl hl (sc_Told c1 n1 id f1 _ (by omega) (by omega) hid (by omega)) ?_
    rintro v M ⟨rfl, rfl⟩
    rw [← hsame]
    refine ⟨[], L, ent, ?_⟩
    refine go ?_
    refine DB.q (v := .int .i64 (f1 : Int)) rfl rfl hl (SV.loadR 34 rfl (RdS.all (sz := 1) (n := 35) htl) (by rfl) htf eqq) ?_
    refine go ?_
    refine DB.callE (vs := [.int .i64 c1, .int .i64 n1, strV ([]), .int .i64 f1]) Tryd.func18 rfl rfl rfl rfl hl hl (rs_Told c1 n1 ([]) f1 _ (by omega) (by omega) (by decide) (by omega)) ?_
    rintro v M ⟨rfl, rfl⟩
    refine ⟨[], L, ent, ?_⟩
    refine DB.q (v := .bool true) rfl rfl hl (SV.eqlST (a := rT4 c1 n1 ([]) f1) (b := rT4 c1 n1 ([]) f1) rfl rfl rfl eqq) ?_
    refine go ?_
    refine DB.callE (vs := []) Tryd.func12 rfl rfl rfl rfl hl hl (ls_one _) ?_
    rintro v M ⟨rfl, rfl⟩
    refine ⟨[], L, ent, ?_⟩
    refine go ?_
    refine ⟨L, ent, ?_⟩
    refine go ?_
    exact ⟨rfl, [_], ⟨Res.tmp rfl, trivial⟩, L, ent, rfl, rfl⟩
  · rw [decide_eq_false hz]
    rw [if_neg hz] at hsame
    have hfl := hxf_len id
    refine go ?_
    refine WO.sv rfl ?_
    refine SV.loadRN 2 rfl (RdS.all (sz := 1) (n := 35) htl) (by rfl) (by decide) (by rw [htl]; decide) hti ?_
    refine WO.callE (vs := [.agg (id.map u8V).toArray]) Tryd.func16 rfl rfl rfl rfl (r3_Text id _ hid) ?_
    rintro v M ⟨rfl, rfl⟩
    refine go ?_
    refine W.drawB #[0, 1, 0, 4, 0, 16, 0, 0, 128, 511, 1023, 2047, 4095, 8191, 16383] [pts b1 (.cells (tdL c1 n1 id f1).toArray 42)] L rfl (by kernel_rfl) (by kernel_rfl) (by kernel_rfl) ent ?_
    refine DB.q (v := .agg (tdL c1 n1 id f1).toArray) rfl rfl hl (SV.loadN (vs := tdL c1 n1 id f1) rfl (sub_full htl) (by rw [htl]; decide) eqq) ?_
    refine DB.callE (vs := [.agg (tdL c1 n1 id f1).toArray]) Tryd.func17 rfl rfl rfl rfl hl hl (sc_Told c1 n1 id f1 _ (by omega) (by omega) hid (by omega)) ?_
    rintro v M ⟨rfl, rfl⟩
    rw [← hsame]
    refine ⟨[], L, ent, ?_⟩
    refine go ?_
    refine DB.q (v := .int .i64 (f1 : Int)) rfl rfl hl (SV.loadR 34 rfl (RdS.all (sz := 1) (n := 35) htl) (by rfl) htf eqq) ?_
    refine go ?_
    refine DB.callE (vs := [.int .i64 c1, .int .i64 n1, strV (id.flatMap hxb), .int .i64 f1]) Tryd.func18 rfl rfl rfl rfl hl hl (rs_Told c1 n1 (id.flatMap hxb) f1 _ (by omega) (by omega) (by omega) (by omega)) ?_
    rintro v M ⟨rfl, rfl⟩
    refine ⟨[], L, ent, ?_⟩
    refine DB.q (v := .bool true) rfl rfl hl (SV.eqlST (a := rT4 c1 n1 (id.flatMap hxb) f1) (b := rT4 c1 n1 (id.flatMap hxb) f1) rfl rfl rfl eqq) ?_
    refine go ?_
    refine DB.callE (vs := []) Tryd.func12 rfl rfl rfl rfl hl hl (ls_one _) ?_
    rintro v M ⟨rfl, rfl⟩
    refine ⟨[], L, ent, ?_⟩
    refine go ?_
    refine ⟨L, ent, ?_⟩
    refine go ?_
    exact ⟨rfl, [_], ⟨Res.tmp rfl, trivial⟩, L, ent, rfl, rfl⟩
end Go.SL

/- Layer 32: acts that come in, and what came of them. -/
namespace Go.SL
open Go.Proofs
set_option linter.unusedVariables false
set_option linter.unusedSimpArgs false
set_option linter.unusedSectionVars false
set_option maxRecDepth 100000

theorem RdT.act {w : World} {xs : List Value} (hl : xs.length = 9) (hx : RdT Tryd.prog w 24 xs) :
    ∃ (A : Ac) (ka : Option Addr) (kc : Nat), xs = acL A.k A.ns A.ts (.slice ka A.ks.length kc) ∧ A.ts.length = 2 ∧ A.ks.length ≤ 9223372036854775807 ∧ (∀ j, (A.ts.getD j []).length ≤ 9223372036854775807) ∧ RdS 1 ka A.ks.length (zv A.ks) [ro (heapOf w)] := by
  obtain ⟨_, hf⟩ := hx.agg Tryd.underlying24
  match xs, hl with
  | [x0, x1, x2, x3, x4, x5, x6, x7, x8], _ =>
    obtain ⟨n0, e0, g0⟩ := (hf 0 _ rfl).i64 Tryd.underlying3
    obtain ⟨n1, e1, g1⟩ := (hf 1 _ rfl).i64 Tryd.underlying3
    obtain ⟨n2, e2, g2⟩ := (hf 2 _ rfl).i64 Tryd.underlying3
    obtain ⟨n3, e3, g3⟩ := (hf 3 _ rfl).i64 Tryd.underlying3
    obtain ⟨n4, e4, g4⟩ := (hf 4 _ rfl).i64 Tryd.underlying3
    obtain ⟨n5, e5, g5⟩ := (hf 5 _ rfl).i64 Tryd.underlying3
    obtain ⟨s6, e6, g6⟩ := (hf 6 _ rfl).str Tryd.underlying9
    obtain ⟨s7, e7, g7⟩ := (hf 7 _ rfl).str Tryd.underlying9
    obtain ⟨ka, kc, ks, e8, g8, r8, _⟩ := (hf 8 _ rfl).ints Tryd.underlying22 Tryd.underlying3 (by kernel_rfl)
    have q0 : [x0] = [Value.int .i64 n0] := e0
    have q1 : [x1] = [Value.int .i64 n1] := e1
    have q2 : [x2] = [Value.int .i64 n2] := e2
    have q3 : [x3] = [Value.int .i64 n3] := e3
    have q4 : [x4] = [Value.int .i64 n4] := e4
    have q5 : [x5] = [Value.int .i64 n5] := e5
    have q6 : [x6] = [strV s6] := e6
    have q7 : [x7] = [strV s7] := e7
    have q8 : [x8] = [Value.slice ka ks.length kc] := e8
    injection q0 with q0; injection q1 with q1; injection q2 with q2; injection q3 with q3; injection q4 with q4
    injection q5 with q5; injection q6 with q6; injection q7 with q7; injection q8 with q8
    subst q0; subst q1; subst q2; subst q3; subst q4; subst q5; subst q6; subst q7; subst q8
    refine ⟨⟨n0, [n1, n2, n3, n4, n5], [s6, s7], ks⟩, ka, kc, rfl, rfl, g8, fun j => ?_, r8⟩
    match j with
    | 0 => exact g6
    | 1 => exact g7
    | _ + 2 => exact Nat.zero_le _
theorem arg_act {H : Type} {enc : TypeId × Value → H} {w : World} {base b0 : Nat} {spare : Nat → Bool} {held : Bool} {r : Reach} {v : Value} {d : DataW H} {ps : List MemPlace}
    (hv : Value.okWide Tryd.prog w r b0 24 v) (h : DataW.Trod enc Tryd.prog w base spare held 24 v d ps) :
    ∃ (A : Ac) (ka : Option Addr) (kc : Nat), v = acV A ka kc ∧ A.ts.length = 2 ∧ A.ks.length ≤ 9223372036854775807 ∧ (∀ j, (A.ts.getD j []).length ≤ 9223372036854775807) ∧ RdS 1 ka A.ks.length (zv A.ks) [ro (heapOf w)] := by
  obtain ⟨xs, rfl, hl, hx⟩ := arg_struct Tryd.underlying24 hv h
  obtain ⟨A, ka, kc, rfl, h1, h2, h3, h4⟩ := RdT.act (hl.trans (by kernel_rfl)) hx
  exact ⟨A, ka, kc, rfl, h1, h2, h3, h4⟩
theorem bytes_form {w : World} {e : TypeId} (he : Tryd.prog.underlying e = some (.int .u8)) : ∀ cs : List Value, (∀ i, i < cs.length → RdT Tryd.prog w e ((cs.drop i).take 1)) → ∃ s : BL, cs = s.map u8V
  | [], _ => ⟨[], rfl⟩
  | x :: cs, h => by
    obtain ⟨c, e0⟩ := (h 0 (by simp)).byte he
    obtain ⟨s, e1⟩ := bytes_form he cs (fun i hi => h (i + 1) (by simp; exact hi))
    have e0' : [x] = [u8V c] := e0
    injection e0' with e0'
    exact ⟨c :: s, by rw [e0', e1]; rfl⟩
theorem RdT.told {w : World} {xs : List Value} (hl : xs.length = 35) (hx : RdT Tryd.prog w 42 xs) : ∃ (code n : Int) (id : BL) (files : Int), xs = tdG code n id files ∧ id.length = 32 := by
  obtain ⟨_, hf⟩ := hx.agg Tryd.underlying42
  obtain ⟨n0, e0, g0⟩ := (hf 0 _ rfl).i64 Tryd.underlying33
  obtain ⟨n1, e1, g1⟩ := (hf 1 _ rfl).i64 Tryd.underlying3
  obtain ⟨n3, e3, g3⟩ := (hf 3 _ rfl).i64 Tryd.underlying3
  have h2 := (hf 2 _ rfl).arr Tryd.underlying40
  have q0 : (xs.drop 0).take 1 = [Value.int .i64 n0] := e0
  have q1 : (xs.drop 1).take 1 = [Value.int .i64 n1] := e1
  have q3 : (xs.drop 34).take 1 = [Value.int .i64 n3] := e3
  have hl2 : ((xs.drop 2).take 32).length = 32 := by rw [List.length_take, List.length_drop, hl]; rfl
  obtain ⟨s, es⟩ := bytes_form (w := w) Tryd.underlying5 ((xs.drop 2).take 32) (fun i hi => by
    have := h2.2 i (by rw [hl2] at hi; exact hi)
    exact (Nat.mul_one i) ▸ this)
  have hs : s.length = 32 := by
    have := congrArg List.length es
    rw [hl2, List.length_map] at this
    exact this.symm
  refine ⟨n0, n1, s, n3, ?_, hs⟩
  have d0 : xs = (xs.drop 0).take 1 ++ xs.drop 1 := (List.take_append_drop 1 xs).symm
  have d1 : xs.drop 1 = (xs.drop 1).take 1 ++ xs.drop 2 := by
    conv => lhs; rw [← List.take_append_drop 1 (xs.drop 1), List.drop_drop]
  have d2 : xs.drop 2 = (xs.drop 2).take 32 ++ xs.drop 34 := by
    conv => lhs; rw [← List.take_append_drop 32 (xs.drop 2), List.drop_drop]
  have d3 : xs.drop 34 = (xs.drop 34).take 1 := by
    rw [List.take_of_length_le (by rw [List.length_drop, hl]; decide)]
  rw [d0, q0, d1, q1, d2, es, d3, q3]
  rfl
theorem arg_told {H : Type} {enc : TypeId × Value → H} {w : World} {base b0 : Nat} {spare : Nat → Bool} {held : Bool} {r : Reach} {v : Value} {d : DataW H} {ps : List MemPlace}
    (hv : Value.okWide Tryd.prog w r b0 42 v) (h : DataW.Trod enc Tryd.prog w base spare held 42 v d ps) : ∃ (code n : Int) (id : BL) (files : Int), v = .agg (tdG code n id files).toArray ∧ id.length = 32 := by
  obtain ⟨xs, rfl, hl, hx⟩ := arg_struct Tryd.underlying42 hv h
  obtain ⟨code, n, id, files, rfl, h1⟩ := RdT.told (hl.trans (by kernel_rfl)) hx
  exact ⟨code, n, id, files, rfl, h1⟩
end Go.SL
