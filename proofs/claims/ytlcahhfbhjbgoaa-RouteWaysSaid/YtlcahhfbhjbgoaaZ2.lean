/- Layer 34: the law RouteWays, walked. -/
import Derived.Test.YtlcahhfbhjbgoaaSlJ
import Derived.Test.YtlcahhfbhjbgoaaZ1
namespace Go.SL
open Go.Proofs
set_option linter.unusedVariables false
set_option linter.unusedSimpArgs false
set_option linter.unusedSectionVars false
set_option maxRecDepth 10000
set_option maxHeartbeats 4000000
attribute [local irreducible] W WO SV OW SW Tri Ent Tk Has Src SrcK DA DB DP RdS Own RowsH Gr OwnT MapH OIs

theorem getD_setBo {l : List Bool} {k j : Nat} {u : Bool} (hk : k < l.length) : (l.set k u).getD j false = if j = k then u else l.getD j false := by
  simp only [List.getD_eq_getElem?_getD, List.getElem?_set]
  by_cases h : k = j
  · subst h; simp [hk]
  · have h' : ¬ j = k := fun e => h e.symm
    simp [h, h']
theorem rep8 (k : Nat) : (List.replicate 8 false).getD k false = false := by
  rw [List.getD_eq_getElem?_getD, List.getElem?_replicate]
  split <;> rfl
theorem l34_ways (n0 : Int) (a0 : Option Addr) (c0 : Nat) (l : List ZZ) (L : List HP) (hl0 : l.length ≤ 9223372036854775807) (r : RdS 2 a0 l.length (l.flatMap zzD) L) :
    TriE Try.prog 6 #[.int .i64 n0, .slice a0 l.length c0] (fun v M => v = .bool true ∧ M = L) L := by
  obtain ⟨nm, hnm, enm⟩ := i64_mask n0 7 (by decide)
  refine Tri.of (N := 199) (args := [.int .i64 n0, .slice a0 l.length c0]) Try.func6 rfl rfl rfl ?_
  refine go ?_
  refine WO.sv rfl ?_
  refine SV.band rfl rfl enm ?_
  refine go ?_
  rw [show (1 : Int) + (nm : Int) = ((1 + nm : Nat) : Int) by omega]
  have hn1 : 1 + nm ≤ 8 := by omega
  generalize 1 + nm = n at *
  refine WO.callE (vs := [.int .i64 (n : Int), .slice a0 l.length c0]) Try.func24 rfl rfl rfl rfl (l34_Made n (by omega) a0 c0 l L hl0 r) ?_
  rintro v M ⟨b, mb, rs, m, rfl, hlen, ok, rfl⟩
  have g : GrR b mb rs n m (Gr b mb rs n m :: L) := Gr.rd hlen
  refine go ?_
  intro b6
  refine go ?_
  refine W.loopS 401734511064747568885490523085290650630550748445698141847440 rfl (fun a : Nat => [(7, .int .i64 (a : Int))]) (fun _ => Gr b mb rs n m :: L) (fun a => a ≤ n) (fun a => n - a) 0 ⟨rfl, trivial⟩ (Nat.zero_le _) (Ent.app ent) ?_
  intro a bg ha
  by_cases h1 : a < n
  rotate_left
  · obtain rfl : a = n := by omega
    refine go ?_
    refine WO.callE (vs := []) Try.func23 rfl rfl rfl rfl (l34_one _) ?_
    rintro v M ⟨rfl, rfl⟩
    refine go ?_
    exact ⟨rfl, [_], ⟨Res.tmp rfl, trivial⟩, L, ent, rfl, rfl⟩
  refine go ?_
  refine W.loopS 401734511064747568885490523085290650630550748445696061472528 rfl (fun e : Nat => [(8, .int .i64 (e : Int))]) (fun _ => Gr b mb rs n m :: L) (fun e => e ≤ n) (fun e => n - e) 0 ⟨rfl, trivial⟩ (Nat.zero_le _) (Ent.app ent) ?_
  intro e bg2 he
  by_cases h2 : e < n
  rotate_left
  · obtain rfl : e = n := by omega
    refine go ?_
    exact ⟨a + 1, ⟨rfl, trivial⟩, rfl, by omega, by omega, Ent.app ent⟩
  refine go ?_
  refine WO.callE (vs := [.pointer (some ⟨b, 0, none⟩), .int .i64 a, .int .i64 e]) Try.func31 rfl rfl rfl rfl (rg_Way _ a e ok g) ?_
  rintro v M ⟨xa, cw, w, rfl, sa, rfl, hw⟩
  have hF := hw.facts h1 h2 ok.le
  have hz := dst_zero (m := m) (a := a) (b := e)
  have htri := fun c h h' => dst_tri (m := m) (a := a) (b := e) (c := c) h h'
  have htu := dst_turn ok a e
  have hff := hF.far
  rw [← hff] at hz htu
  refine go ?_
  refine WO.callE (vs := [.pointer (some ⟨b, 0, none⟩), .int .i64 a, .int .i64 e]) Try.func29 rfl rfl rfl rfl (rg_far _ a e ok g.cons) ?_
  rintro v M ⟨rfl, rfl, q1, q2⟩
  rw [far_in m h1 h2, ← hff] at *
  have hwl : w.length ≤ 99 := by omega
  refine WO.sv rfl ?_
  refine SV.assign rfl ?_
  refine goC ?_
  refine W.cut (σ := Unit) 36893470555233058816 rfl (fun _ => [(64, .bool false)]) (fun _ => OIs xa cw w :: Gr b mb rs n m :: L) (fun _ => True) ?_ ?_
  · refine go ?_
    refine WO.callE (vs := [.pointer (some ⟨b, 0, none⟩), .int .i64 e, .int .i64 a]) Try.func29 rfl rfl rfl rfl (rg_far _ e a ok g.cons) ?_
    rintro v M ⟨rfl, rfl, _, _⟩
    rw [far_in m h2 h1, htu]
    by_cases hab : a = e
    · have hf0 := hz.2 hab
      refine go ?_
      exact ⟨(), ⟨rfl, trivial⟩, rfl, trivial, ent⟩
    · have hf0 : (w.length : Int) - 1 ≠ 0 := fun z => hab (hz.1 z)
      refine go ?_
      exact ⟨(), ⟨rfl, trivial⟩, rfl, trivial, ent⟩
  rintro - bg3 -
  have rdw : RdS 1 xa w.length (iv w) (OIs xa cw w :: Gr b mb rs n m :: L) := by unfold OIs; exact RdS.ownS Tk.here sa (by simp [iv])
  have g2 : GrR b mb rs n m (OIs xa cw w :: Gr b mb rs n m :: L) := g.cons
  refine go ?_
  intro b11
  refine go ?_
  rw [show [Value.bool false, Value.bool false, Value.bool false, Value.bool false, Value.bool false, Value.bool false, Value.bool false, Value.bool false] = (List.replicate 8 false).map Value.bool from rfl]
  refine W.loopS 713623846352979940529142947831259420772282384 rfl (fun s : Nat × List Bool => [(12, .int .i64 (s.1 : Int))]) (fun s => pts b11 (.cells (s.2.map Value.bool).toArray 61) :: OIs xa cw w :: Gr b mb rs n m :: L)
    (fun s => s.1 ≤ w.length ∧ s.2.length = 8 ∧ ∀ k, s.2.getD k false = true → ∃ j, j < s.1 ∧ w.getD j 0 = k) (fun s => w.length - s.1) (0, List.replicate 8 false) ⟨rfl, trivial⟩
    ⟨Nat.zero_le _, rfl, fun k hk => by dsimp only at hk; rw [rep8] at hk; cases hk⟩ (Ent.app ent) ?_
  rintro ⟨i, hv⟩ bg4 ⟨hi, hvl, hvi⟩
  dsimp only at hi hvl hvi ⊢
  by_cases h3 : i < w.length
  rotate_left
  · obtain rfl : i = w.length := by omega
    by_cases hpos : 0 < w.length
    · have x0 := iv_get w 0 hpos
      have x1 := iv_get w (w.length - 1) (by omega)
      rw [hF.first hpos] at x0
      rw [hF.last hpos] at x1
      obtain ⟨ab, rfl⟩ := sa (by omega)
      refine go ?_
      refine WO.sv rfl ?_
      refine SV.loadR (v := .int .i64 (a : Int)) 0 rfl rdw.cons (by omega) x0 ?_
      refine go ?_
      refine WO.sv rfl ?_
      refine SV.loadR (v := .int .i64 (e : Int)) (w.length - 1) rfl rdw.cons (by omega) x1 ?_
      refine go ?_
      refine W.loopS 401734510690603149728779376025147333455182295413779477938192 rfl (fun c : Nat => [(14, .int .i64 (c : Int))]) (fun _ => Gr b mb rs n m :: L) (fun c => c ≤ n) (fun c => n - c) 0 ⟨rfl, trivial⟩ (Nat.zero_le _) (Ent.app ent) ?_
      intro c bg7 hc
      by_cases h6 : c < n
      rotate_left
      · refine go ?_
        exact ⟨e + 1, ⟨rfl, trivial⟩, rfl, by omega, by omega, Ent.app ent⟩
      have ht := htri c
      refine go ?_
      refine WO.callE (vs := [.pointer (some ⟨b, 0, none⟩), .int .i64 a, .int .i64 c]) Try.func29 rfl rfl rfl rfl (rg_far _ a c ok g) ?_
      rintro v M ⟨rfl, rfl, z1, z2⟩
      refine go ?_
      refine WO.callE (vs := [.pointer (some ⟨b, 0, none⟩), .int .i64 c, .int .i64 e]) Try.func29 rfl rfl rfl rfl (rg_far _ c e ok g) ?_
      rintro v M ⟨rfl, rfl, z3, z4⟩
      rw [far_in m h1 h6] at *
      rw [far_in m h6 h2] at *
      have hff3 := hF.far
      generalize dst m a c = dac at *
      generalize dst m c e = dce at *
      by_cases k1 : 0 ≤ dac
      · by_cases k2 : 0 ≤ dce
        · have ht2 := ht k1 k2
          refine go ?_
          exact ⟨c + 1, ⟨rfl, trivial⟩, rfl, by omega, by omega, Ent.app ent⟩
        · refine go ?_
          exact ⟨c + 1, ⟨rfl, trivial⟩, rfl, by omega, by omega, Ent.app ent⟩
      · refine go ?_
        exact ⟨c + 1, ⟨rfl, trivial⟩, rfl, by omega, by omega, Ent.app ent⟩
    refine go ?_
    refine W.loopS 401734510690603149728779376025147333455182295413779477938192 rfl (fun c : Nat => [(14, .int .i64 (c : Int))]) (fun _ => Gr b mb rs n m :: L) (fun c => c ≤ n) (fun c => n - c) 0 ⟨rfl, trivial⟩ (Nat.zero_le _) (Ent.app ent) ?_
    intro c bg7 hc
    by_cases h6 : c < n
    rotate_left
    · refine go ?_
      exact ⟨e + 1, ⟨rfl, trivial⟩, rfl, by omega, by omega, Ent.app ent⟩
    have ht := htri c
    refine go ?_
    refine WO.callE (vs := [.pointer (some ⟨b, 0, none⟩), .int .i64 a, .int .i64 c]) Try.func29 rfl rfl rfl rfl (rg_far _ a c ok g) ?_
    rintro v M ⟨rfl, rfl, z1, z2⟩
    refine go ?_
    refine WO.callE (vs := [.pointer (some ⟨b, 0, none⟩), .int .i64 c, .int .i64 e]) Try.func29 rfl rfl rfl rfl (rg_far _ c e ok g) ?_
    rintro v M ⟨rfl, rfl, z3, z4⟩
    rw [far_in m h1 h6] at *
    rw [far_in m h6 h2] at *
    have hff3 := hF.far
    generalize dst m a c = dac at *
    generalize dst m c e = dce at *
    by_cases k1 : 0 ≤ dac
    · by_cases k2 : 0 ≤ dce
      · have ht2 := ht k1 k2
        exfalso; omega
      · refine go ?_
        exact ⟨c + 1, ⟨rfl, trivial⟩, rfl, by omega, by omega, Ent.app ent⟩
    · refine go ?_
      exact ⟨c + 1, ⟨rfl, trivial⟩, rfl, by omega, by omega, Ent.app ent⟩
  have hx := iv_get w i h3
  have hxl := hF.lt i h3
  have hnot : hv.getD (w.getD i 0) false = false := by
    cases q : hv.getD (w.getD i 0) false with
    | false => rfl
    | true =>
      obtain ⟨j, j1, j2⟩ := hvi _ q
      have := hF.inj j i (by omega) h3 j2
      omega
  have hgv : (hv.map Value.bool)[w.getD i 0]? = some (.bool false) := by
    have : w.getD i 0 < hv.length := by omega
    rw [List.getD_eq_getElem?_getD, List.getElem?_eq_getElem this] at hnot
    simp only [Option.getD_some] at hnot
    rw [List.getElem?_map, List.getElem?_eq_getElem this, hnot]; rfl
  have hedge : 0 < i → m (w.getD (i - 1) 0) (w.getD i 0) = true := fun z => hF.edge i z h3
  have hx' : 0 < i → (iv w)[i - 1]? = some (.int .i64 (w.getD (i - 1) 0 : Nat)) := fun z => iv_get w (i - 1) (by omega)
  have hxl' := hF.lt (i - 1) (by omega)
  have rdS : RdS 1 xa w.length (iv w) [pts b11 (.cells (hv.map Value.bool).toArray 61), OIs xa cw w, Gr b mb rs n m] := by unfold OIs; exact RdS.ownS (Tk.there Tk.here) sa (by simp [iv])
  have rdH : RdS 1 (some ⟨b11, 0, none⟩) 8 (hv.map Value.bool) [pts b11 (.cells (hv.map Value.bool).toArray 61), OIs xa cw w, Gr b mb rs n m] := RdS.all (by rw [List.length_map, hvl])
  obtain ⟨ab, hab⟩ := sa (by omega)
  refine goC ?_
  refine go ?_
  generalize hwi : w.getD i 0 = wi at *
  generalize hwj : w.getD (i - 1) 0 = wj at *
  subst hab
  refine W.cut (σ := Unit) 1298074214631345723891189259698176 rfl (fun _ => [(109, .bool false)]) (fun _ => pts b11 (.cells (hv.map Value.bool).toArray 61) :: OIs (some ⟨ab, 0, none⟩) cw w :: Gr b mb rs n m :: L) (fun _ => True) ?_ ?_
  · refine W.drawB #[0, 0, 3, 7, 15, 31, 63, 63, 255, 511, 63, 2047, 4095, 8191, 16383, 16383, 65535, 131071, 262143, 524287, 1048575, 2097151, 4194303, 8388607, 16777215, 33554431, 33554431, 33554431, 167772159, 503316479, 1040187391, 33554431, 33554431, 6476005375, 15065939967, 34359738367, 68719476735, 137438953471, 274877906943] [pts b11 (.cells (hv.map Value.bool).toArray 61), OIs (some ⟨ab, 0, none⟩) cw w, Gr b mb rs n m] L rfl (by kernel_rfl) (by kernel_rfl) (by kernel_rfl) ent ?_
    refine go ?_
    refine DB.q (v := .int .i64 wi) rfl rfl hl (SV.loadR i rfl rdS (by omega) hx eqq) ?_
    refine go ?_
    refine DB.q (v := .int .i64 wi) rfl rfl hl (SV.loadR i rfl rdS (by omega) hx eqq) ?_
    refine go ?_
    refine DB.q (v := .int .i64 wi) rfl rfl hl (SV.loadR i rfl rdS (by omega) hx eqq) ?_
    refine go ?_
    refine DB.q (v := .bool false) rfl rfl hl (SV.loadR wi rfl rdH (by omega) hgv eqq) ?_
    by_cases hi0 : 0 < i
    · have hlk : (decide (0 ≤ (wj : Int) ∧ (wj : Int) < (n : Int)) && decide (0 ≤ (wi : Int) ∧ (wi : Int) < (n : Int)) && m (wj : Int).toNat (wi : Int).toNat) = true := by
        rw [decide_eq_true (by omega), decide_eq_true (by omega), Int.toNat_natCast, Int.toNat_natCast, hedge hi0]; rfl
      refine go ?_
      refine DB.q (v := .int .i64 wj) rfl rfl hl (SV.loadR (i - 1) rfl rdS (by omega) (hx' hi0) eqq) ?_
      refine go ?_
      refine DB.q (v := .int .i64 wi) rfl rfl hl (SV.loadR i rfl rdS (by omega) hx eqq) ?_
      refine DB.callE (vs := [.pointer (some ⟨b, 0, none⟩), .int .i64 wj, .int .i64 wi]) Try.func30 rfl rfl rfl rfl hl hl (rg_Linked _ wj wi g2.cons) ?_
      rintro v M ⟨rfl, rfl⟩
      rw [hlk]
      refine ⟨[], L, ent, ?_⟩
      refine go ?_
      refine ⟨pts b11 (.cells (hv.map Value.bool).toArray 61) :: OIs (some ⟨ab, 0, none⟩) cw w :: Gr b mb rs n m :: L, ent, ?_⟩
      refine go ?_
      exact ⟨(), ⟨rfl, trivial⟩, rfl, trivial, ent⟩
    · refine go ?_
      refine ⟨pts b11 (.cells (hv.map Value.bool).toArray 61) :: OIs (some ⟨ab, 0, none⟩) cw w :: Gr b mb rs n m :: L, ent, ?_⟩
      refine go ?_
      exact ⟨(), ⟨rfl, trivial⟩, rfl, trivial, ent⟩
  rintro - bg5 -
  refine go ?_
  refine WO.sv rfl ?_
  refine SV.loadR (v := .int .i64 wi) i rfl rdw.cons (by omega) hx ?_
  refine go ?_
  refine WO.sv rfl ?_
  refine SV.storeS (v := .bool true) rfl rfl rfl (.inl (Nat.le_refl _)) (by rw [List.length_map]; omega) ?_
  rw [show 0 + (wi : Int).toNat * 1 = wi by omega, ← List.map_set]
  refine go ?_
  have hnext : i + 1 ≤ w.length ∧ (hv.set wi true).length = 8 ∧ ∀ k, (hv.set wi true).getD k false = true → ∃ j, j < i + 1 ∧ w.getD j 0 = k := by
    refine ⟨h3, by rw [List.length_set]; exact hvl, fun k hk => ?_⟩
    rw [getD_setBo (by omega)] at hk
    by_cases e1 : k = wi
    · exact ⟨i, by omega, by rw [hwi, e1]⟩
    · rw [if_neg e1] at hk
      obtain ⟨j, j1, j2⟩ := hvi k hk
      exact ⟨j, by omega, j2⟩
  have hleast := fun c h h' h'' => hF.least i c h h' h''
  rw [hwi] at hleast
  have hwnl := fun z => hF.lt (i + 1) z
  have hwnx := fun z => iv_get w (i + 1) z
  generalize w.getD (i + 1) 0 = wn at *
  refine W.loopS 713623846311441565660864363696503597557620752 rfl (fun c : Nat => [(13, .int .i64 (c : Int))]) (fun _ => pts b11 (.cells ((hv.set wi true).map Value.bool).toArray 61) :: OIs (some ⟨ab, 0, none⟩) cw w :: Gr b mb rs n m :: L) (fun c => c ≤ n) (fun c => n - c) 0 ⟨rfl, trivial⟩ (Nat.zero_le _) (Ent.app ent) ?_
  intro c bg6 hc
  by_cases h4 : i + 1 < w.length
  rotate_left
  · refine go ?_
    exact ⟨(i + 1, hv.set wi true), ⟨rfl, trivial⟩, rfl, hnext, by dsimp only; omega, Ent.app ent⟩
  have hwn := hwnl h4
  have hxn := hwnx h4
  refine go ?_
  refine WO.sv rfl ?_
  refine SV.loadR (v := .int .i64 wn) (i + 1) rfl rdw.cons (by omega) hxn ?_
  by_cases h5 : c < wn
  rotate_left
  · refine go ?_
    exact ⟨(i + 1, hv.set wi true), ⟨rfl, trivial⟩, rfl, hnext, by dsimp only; omega, Ent.app ent⟩
  have hls := hleast c h4 h5
  refine go ?_
  refine WO.sv rfl ?_
  refine SV.loadR (v := .int .i64 wi) i rfl rdw.cons (by omega) hx ?_
  refine go ?_
  refine WO.callE (vs := [.pointer (some ⟨b, 0, none⟩), .int .i64 wi, .int .i64 c]) Try.func30 rfl rfl rfl rfl (rg_Linked _ wi c g2.cons) ?_
  rintro v M ⟨rfl, rfl⟩
  have hlk2 : (decide (0 ≤ (wi : Int) ∧ (wi : Int) < (n : Int)) && decide (0 ≤ (c : Int) ∧ (c : Int) < (n : Int)) && m (wi : Int).toNat (c : Int).toNat) = m wi c := by
    rw [decide_eq_true (show 0 ≤ (wi : Int) ∧ (wi : Int) < (n : Int) by omega), decide_eq_true (show 0 ≤ (c : Int) ∧ (c : Int) < (n : Int) by omega), Int.toNat_natCast, Int.toNat_natCast]; rfl
  rw [hlk2]
  generalize hm : m wi c = mb1 at *
  cases mb1 with
  | false =>
    refine go ?_
    exact ⟨c + 1, ⟨rfl, trivial⟩, rfl, by omega, by omega, Ent.app ent⟩
  | true =>
    have hne := hls rfl
    refine go ?_
    refine WO.callE (vs := [.pointer (some ⟨b, 0, none⟩), .int .i64 c, .int .i64 e]) Try.func29 rfl rfl rfl rfl (rg_far _ c e ok g2.cons) ?_
    rintro v M ⟨rfl, rfl, q3, q4⟩
    rw [far_in m (show c < n by omega) h2] at *
    generalize dst m c e = dce at *
    refine go ?_
    exact ⟨c + 1, ⟨rfl, trivial⟩, rfl, by omega, by omega, Ent.app ent⟩
end Go.SL

/- Pairs that came in. -/
namespace Go.SL
theorem RdT.int2 {P : Program} {w : World} {t e : TypeId} {xs : List Value} (ht : P.underlying t = some (.array 2 e)) (he : P.underlying e = some (.int .i64)) (hC : P.cellsOf e = 1) (hl : xs.length = 2) (h : RdT P w t xs) :
    ∃ a0 a1 : Int, xs = [.int .i64 a0, .int .i64 a1] := by
  obtain ⟨_, hf⟩ := h.arr ht
  rw [hC] at hf
  match xs, hl with
  | [x0, x1], _ =>
    obtain ⟨n0, e0, g0⟩ := (hf 0 (by decide)).i64 he
    obtain ⟨n1, e1, g1⟩ := (hf 1 (by decide)).i64 he
    have q0 : [x0] = [Value.int .i64 n0] := e0
    have q1 : [x1] = [Value.int .i64 n1] := e1
    injection q0 with q0; injection q1 with q1
    subst q0; subst q1
    exact ⟨n0, n1, rfl⟩
end Go.SL
