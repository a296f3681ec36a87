/- Layer 2 (sha): words are turned, walked. -/
import Derived.KernelRfl
import Derived.Laws.StructEq
import Derived.Tactics
import Derived.Test.YthdfbmdfmfndhaaSlG
import Derived.Test.YthdfbmdfmfndhaaSlL
import Derived.Test.YthdfbmdfmfndhaaSlM
import Derived.Test.YthdfbmdfmfndhaaSlO
import Derived.Test.YthdfbmdfmfndhaaSlV
import Derived.Test.YthdfbmdfmfndhaaSlW
import Derived.Test.YthdfbmdfmfndhaaSlX
import Derived.Test.YthdfbmdfmfndhaaTy
namespace Go.SL
open Go.Proofs
set_option linter.unusedVariables false
set_option linter.unusedSimpArgs false
set_option linter.unusedSectionVars false
set_option maxRecDepth 10000
set_option maxHeartbeats 4000000
attribute [local irreducible] W WO SV OW SW Tri Ent Tk Has Src SrcK DA DB DP RdS Own OwnT

def rotr (x : UInt32) (n : Nat) : UInt32 := (x <<< UInt32.ofNat (32 - n)) ||| (x >>> UInt32.ofNat n)
theorem rot_mask (n : Nat) (h0 : 0 < n) (h : n < 32) (m : Nat) (hm : (m : Int) = 18446744073709551616 - (n : Int)) : IntKind.wrap .u64 ((((m : Nat) : Int) % 2 ^ IntKind.bits .u64).toNat &&& ((31 : Int) % 2 ^ IntKind.bits .u64).toNat : Nat) = ((32 - n : Nat) : Int) := by
  have e0 : ((m : Int) % 2 ^ IntKind.bits .u64).toNat = m := by
    rw [show IntKind.bits .u64 = 64 from rfl]; omega
  have e1 : ((31 : Int) % 2 ^ IntKind.bits .u64).toNat = 31 := by decide
  rw [e0, e1]
  have e2 : m &&& 31 = m % 32 := Nat.and_two_pow_sub_one_eq_mod m 5
  rw [e2, show m % 32 = 32 - n by omega]
  simp [IntKind.wrap, IntKind.bits, IntKind.signed]; omega
theorem mb_Rot (x : UInt32) (n : Nat) (L : List HP) (h0 : 0 < n) (h : n < 32) : TriE Try.prog 90 #[w32 x, .int .i64 (-(n : Int))] (fun v M => v = w32 (rotr x n) ∧ M = L) L := by
  obtain ⟨m, hm⟩ : ∃ m : Nat, (m : Int) = 18446744073709551616 - (n : Int) := ⟨18446744073709551616 - n, by omega⟩
  have hw : IntKind.wrap .u64 (-(n : Int)) = (m : Int) := by
    rw [hm]; simp [IntKind.wrap, IntKind.bits, IntKind.signed]; try omega
  refine Tri.of (N := 17) (args := [w32 x, .int .i64 (-(n : Int))]) Try.func90 rfl rfl rfl ?_
  refine go ?_
  refine WO.sv rfl ?_
  refine SV.band (a := IntKind.wrap .u64 (-(n : Int))) (b := 31) (z := ((32 - n : Nat) : Int)) rfl rfl (by rw [hw]; exact rot_mask n h0 h m hm) ?_
  refine go ?_
  refine WO.sv rfl ?_
  refine SV.shl32 (n := 32 - n) rfl rfl (by omega) ?_
  refine go ?_
  refine WO.sv rfl ?_
  refine SV.shr32 (n := n) rfl (show _ = Value.int .u64 (n : Int) from congrArg (Value.int .u64) (by omega)) h ?_
  refine WO.sv rfl ?_
  refine SV.or32 rfl rfl ?_
  refine go ?_
  exact ⟨rfl, [_], ⟨Res.tmp rfl, trivial⟩, L, ent, rfl, rfl⟩
theorem sh_turn (x : UInt32) (n : Nat) (L : List HP) (h0 : 0 < n) (h : n < 32) : TriE Try.prog 78 #[w32 x, .int .i64 n] (fun v M => v = w32 (rotr x n) ∧ M = L) L := by
  refine Tri.of (N := 9) (args := [w32 x, .int .i64 n]) Try.func78 rfl rfl rfl ?_
  refine go ?_
  refine WO.sv rfl ?_
  refine SV.neg (z := -(n : Int)) rfl (by simp [IntKind.wrap, IntKind.bits, IntKind.signed]; omega) ?_
  refine WO.callE (vs := [w32 x, .int .i64 (-(n : Int))]) Try.func90 rfl rfl rfl rfl (mb_Rot x n L h0 h) ?_
  rintro v M ⟨rfl, rfl⟩
  refine go ?_
  exact ⟨rfl, [_], ⟨Res.tmp rfl, trivial⟩, _, ent, rfl, rfl⟩
end Go.SL

/- Layer 2 (sha): the words of a block, walked. -/
namespace Go.SL
open Go.Proofs
set_option linter.unusedVariables false
set_option linter.unusedSimpArgs false
set_option linter.unusedSectionVars false
set_option maxRecDepth 10000
set_option maxHeartbeats 4000000
attribute [local irreducible] W WO SV OW SW Tri Ent Tk Has Src SrcK DA DB DP RdS Own OwnT MapH

abbrev BL := List UInt8
def be4 (a b c d : UInt8) : UInt32 := ((a.toUInt32 <<< UInt32.ofNat 24 ||| b.toUInt32 <<< UInt32.ofNat 16) ||| c.toUInt32 <<< UInt32.ofNat 8) ||| d.toUInt32
def wd (b : BL) (w : List UInt32) : UInt32 :=
  if w.length < 16 then be4 (b.getD (4 * w.length) 0) (b.getD (4 * w.length + 1) 0) (b.getD (4 * w.length + 2) 0) (b.getD (4 * w.length + 3) 0)
  else ((w.getD (w.length - 16) 0 + ((rotr (w.getD (w.length - 15) 0) 7 ^^^ rotr (w.getD (w.length - 15) 0) 18) ^^^ (w.getD (w.length - 15) 0 >>> UInt32.ofNat 3))) + w.getD (w.length - 7) 0) + ((rotr (w.getD (w.length - 2) 0) 17 ^^^ rotr (w.getD (w.length - 2) 0) 19) ^^^ (w.getD (w.length - 2) 0 >>> UInt32.ofNat 10))
def wsq (b : BL) : Nat → List UInt32
  | 0 => []
  | t + 1 => wsq b t ++ [wd b (wsq b t)]
theorem wsq_len (b : BL) : ∀ t, (wsq b t).length = t
  | 0 => rfl
  | t + 1 => by simp [wsq, wsq_len b t]
/-- Words, and room for more. -/
def wm (w : List UInt32) : List Value := (w ++ List.replicate (64 - w.length) 0).map w32
theorem wm_len {w : List UInt32} (h : w.length ≤ 64) : (wm w).length = 64 := by simp [wm]; omega
theorem wm_get {w : List UInt32} {i : Nat} (h : i < w.length) : (wm w)[i]? = some (w32 (w.getD i 0)) := by
  unfold wm
  rw [List.getElem?_map, List.getElem?_append_left h, List.getD_eq_getElem?_getD, List.getElem?_eq_getElem h]; rfl
theorem wm_set {w : List UInt32} (x : UInt32) (h : w.length < 64) : (wm w).set w.length (w32 x) = wm (w ++ [x]) := by
  unfold wm
  rw [← List.map_set, List.set_append_right _ _ (Nat.le_refl _), Nat.sub_self, List.length_append, List.append_assoc]
  have e : 64 - w.length = (64 - (w.length + 1)) + 1 := by omega
  rw [e, List.replicate_succ, List.set_cons_zero]; rfl
theorem wm_nil : wm [] = List.replicate 64 (.int .u32 0) := by simp [wm, w32]
theorem wm_full {w : List UInt32} (h : w.length = 64) : wm w = w.map w32 := by simp [wm, h]
/-- A hash's cells. -/
def hsL (st k : List UInt32) (buf : BL) (n : Nat) : List Value := .bool true :: (st.map w32 ++ (k.map w32 ++ (buf.map u8V ++ [.int .u64 (n : Int)])))
structure HsOk (st k : List UInt32) (buf : BL) : Prop where
  st : st.length = 8
  k : k.length = 64
  buf : buf.length = 64
theorem hsL_len {st k : List UInt32} {buf : BL} {n : Nat} (h : HsOk st k buf) : (hsL st k buf n).length = 138 := by simp [hsL, h.st, h.k, h.buf]
theorem hsL_buf {st k : List UInt32} {buf : BL} {n : Nat} (h : HsOk st k buf) {i : Nat} (hi : i < 64) : (hsL st k buf n)[73 + i]? = some (u8V (buf.getD i 0)) := by
  unfold hsL
  rw [show 73 + i = (72 + i) + 1 by omega, List.getElem?_cons_succ, List.getElem?_append_right (by simp [h.st]; omega), List.getElem?_append_right (by simp [h.st, h.k]; omega), List.getElem?_append_left (by simp [h.st, h.k, h.buf]; omega)]
  simp only [List.length_map, h.st, h.k]
  rw [show 72 + i - 8 - 64 = i by omega, List.getElem?_map, List.getD_eq_getElem?_getD, List.getElem?_eq_getElem (by rw [h.buf]; exact hi)]; rfl
theorem w32_u8 (c : UInt8) : Value.int .u32 (c.toNat : Int) = w32 c.toUInt32 := by unfold w32; rw [UInt8.toNat_toUInt32]
theorem sub_full {l : List Value} {n : Nat} (h : l.length = n) : NL (lsub l 0 n) l := by
  rw [lsub_eq, List.drop_zero, List.take_of_length_le (by omega)]; rfl
theorem lput_full : ∀ {l vs : List Value}, l.length = vs.length → NL (lput l 0 vs) vs
  | [], [], _ => rfl
  | [], _ :: _, h => by simp at h
  | a :: l, [], h => by simp at h
  | a :: l, v :: vs, h => by
    have ih := lput_full (l := l) (vs := vs) (by simpa using h)
    unfold NL at *
    show v :: lput l 0 vs = v :: vs
    rw [ih]
theorem sh_words (b : Nat) (st k : List UInt32) (buf : BL) (n : Nat) (T : TypeId) (fr : Nat × Nat) (L : List HP) (ok : HsOk st k buf) (r : Rd L b (.cells (hsL st k buf n).toArray T fr)) :
    TriE Try.prog 77 #[.pointer (some ⟨b, 0, none⟩)] (fun v M => v = .agg ((wsq buf 64).map w32).toArray ∧ M = L) L := by
  haveI := r
  have hl138 := hsL_len (n := n) ok
  have rdh : RdS 1 (some ⟨b, 0, none⟩) 138 (hsL st k buf n) L := RdS.all (by rw [hl138])
  refine Tri.of (N := 84) (args := [.pointer (some ⟨b, 0, none⟩)]) Try.func77 rfl rfl rfl ?_
  refine go ?_
  intro b2
  refine go ?_
  rw [← wm_nil]
  refine W.loopS 9671406556917033397649400 rfl (fun t : Nat => [(7, .int .i64 (t : Int))]) (fun t => pts b2 (.cells (wm (wsq buf t)).toArray 63) :: L) (fun t => t ≤ 64) (fun t => 64 - t) 0 ⟨rfl, trivial⟩ (Nat.zero_le _) (Ent.app ent) ?_
  intro t bg ht
  have hwl := wsq_len buf t
  have hwm := wm_len (w := wsq buf t) (by omega)
  by_cases h : t < 64
  rotate_left
  · obtain rfl : t = 64 := by omega
    rw [wm_full hwl]
    have hml : ((wsq buf 64).map w32).length = 64 := by rw [List.length_map, hwl]
    have hce : ((wsq buf 64).map w32).isEmpty = false := by
      cases hq : (wsq buf 64).map w32 with
      | nil => rw [hq] at hml; cases hml
      | cons _ _ => rfl
    have hca : ((wsq buf 64).map w32).all isCell = true := by
      rw [List.all_eq_true]
      intro x hx
      obtain ⟨j, _, rfl⟩ := List.mem_map.1 hx
      rfl
    generalize (wsq buf 64).map w32 = ws at *
    clear hwm hwl
    refine go ?_
    refine WO.sv rfl ?_
    refine SV.loadN (vs := ws) rfl (sub_full hml) (by rw [hml]; decide) ?_
    refine WO.sv rfl ?_
    refine SV.store (vs := ws) (l' := ws) rfl rfl Cel.agg (by rw [hml]; rfl) hce hca (.inl (Nat.le_refl _)) (by rw [hml]; decide) (lput_full rfl) ?_
    refine go ?_
    exact ⟨rfl, [_], ⟨Res.cell rfl (by rw [hml]; decide) (sub_full hml), trivial⟩, L, ent, rfl, rfl⟩
  have hset := wm_set (wd buf (wsq buf t)) (w := wsq buf t) (by omega)
  rw [hwl] at hset
  have hnext : wsq buf (t + 1) = wsq buf t ++ [wd buf (wsq buf t)] := rfl
  by_cases h16 : t < 16
  · have g0 := hsL_buf (n := n) ok (i := 4 * t) (by omega)
    have g1 := hsL_buf (n := n) ok (i := 4 * t + 1) (by omega)
    have g2 := hsL_buf (n := n) ok (i := 4 * t + 2) (by omega)
    have g3 := hsL_buf (n := n) ok (i := 4 * t + 3) (by omega)
    have hwd : wd buf (wsq buf t) = be4 (buf.getD (4 * t) 0) (buf.getD (4 * t + 1) 0) (buf.getD (4 * t + 2) 0) (buf.getD (4 * t + 3) 0) := by
      unfold wd; rw [hwl, if_pos h16]
    refine go ?_
    refine WO.sv rfl ?_
    refine SV.cutArr (l := 4 * t) (h := 4 * t + 4) rfl (cutAt.of rfl (by omega)) (cutAt.of rfl (by omega)) (by omega) (by omega) ?_
    intro off' hoff
    obtain rfl : off' = 73 + 4 * t := by have := hoff (.inl (by omega)); omega
    generalize hws : wsq buf t = w at *
    generalize buf.getD (4 * t) 0 = c0 at *
    generalize buf.getD (4 * t + 1) 0 = c1 at *
    generalize buf.getD (4 * t + 2) 0 = c2 at *
    generalize buf.getD (4 * t + 3) 0 = c3 at *
    have hb0 : c0.toNat < 256 := c0.toNat_lt
    have hb1 : c1.toNat < 256 := c1.toNat_lt
    have hb2 : c2.toNat < 256 := c2.toNat_lt
    have hb3 : c3.toNat < 256 := c3.toNat_lt
    refine go ?_
    refine W.drawA rfl (by kernel_rfl) (by kernel_rfl) ?_
    refine go ?_
    refine DA.q (v := u8V c0) rfl rfl (SV.loadR (73 + 4 * t) rfl rdh.cons (by omega) g0 eqq) ?_
    refine go ?_
    refine DA.q (v := w32 (c0.toUInt32 <<< UInt32.ofNat 24)) rfl rfl (SV.shl32 (a := c0.toUInt32) (n := 24) (w32_u8 c0) rfl (by decide) eqq) ?_
    refine go ?_
    refine DA.q (v := u8V c1) rfl rfl (SV.loadR (73 + (4 * t + 1)) rfl rdh.cons (by omega) g1 eqq) ?_
    refine go ?_
    refine DA.q (v := w32 (c1.toUInt32 <<< UInt32.ofNat 16)) rfl rfl (SV.shl32 (a := c1.toUInt32) (n := 16) (w32_u8 c1) rfl (by decide) eqq) ?_
    refine DA.q (v := w32 (c0.toUInt32 <<< UInt32.ofNat 24 ||| c1.toUInt32 <<< UInt32.ofNat 16)) rfl rfl (SV.or32 rfl rfl eqq) ?_
    refine go ?_
    refine DA.q (v := u8V c2) rfl rfl (SV.loadR (73 + (4 * t + 2)) rfl rdh.cons (by omega) g2 eqq) ?_
    refine go ?_
    refine DA.q (v := w32 (c2.toUInt32 <<< UInt32.ofNat 8)) rfl rfl (SV.shl32 (a := c2.toUInt32) (n := 8) (w32_u8 c2) rfl (by decide) eqq) ?_
    refine DA.q (v := w32 ((c0.toUInt32 <<< UInt32.ofNat 24 ||| c1.toUInt32 <<< UInt32.ofNat 16) ||| c2.toUInt32 <<< UInt32.ofNat 8)) rfl rfl (SV.or32 rfl rfl eqq) ?_
    refine go ?_
    refine DA.q (v := u8V c3) rfl rfl (SV.loadR (73 + (4 * t + 3)) rfl rdh.cons (by omega) g3 eqq) ?_
    refine go ?_
    refine DA.q (v := w32 (be4 c0 c1 c2 c3)) rfl rfl (SV.or32 (a := (c0.toUInt32 <<< UInt32.ofNat 24 ||| c1.toUInt32 <<< UInt32.ofNat 16) ||| c2.toUInt32 <<< UInt32.ofNat 8) (b := c3.toUInt32) rfl (w32_u8 c3) eqq) ?_
    rw [← hwd]
    refine go ?_
    refine DA.v rfl rfl rfl ?_
    refine SV.storeS (v := w32 (wd buf w)) rfl rfl rfl (.inl (Nat.le_refl _)) (by rw [hwm]; omega) ?_
    rw [show 0 + (t : Int).toNat * 1 = t by omega, hset]
    refine go ?_
    refine ⟨t + 1, ⟨rfl, trivial⟩, rfl, h, by omega, ?_⟩
    rw [hnext]
    exact Ent.app ent
  · generalize hws : wsq buf t = w at *
    have gx := wm_get (w := w) (i := t - 15) (by omega)
    have gy := wm_get (w := w) (i := t - 2) (by omega)
    have ga := wm_get (w := w) (i := t - 16) (by omega)
    have gb := wm_get (w := w) (i := t - 7) (by omega)
    have hwd : wd buf w = ((w.getD (t - 16) 0 + ((rotr (w.getD (t - 15) 0) 7 ^^^ rotr (w.getD (t - 15) 0) 18) ^^^ (w.getD (t - 15) 0 >>> UInt32.ofNat 3))) + w.getD (t - 7) 0) + ((rotr (w.getD (t - 2) 0) 17 ^^^ rotr (w.getD (t - 2) 0) 19) ^^^ (w.getD (t - 2) 0 >>> UInt32.ofNat 10)) := by
      unfold wd; rw [hwl, if_neg h16]
    generalize w.getD (t - 15) 0 = x at *
    generalize w.getD (t - 2) 0 = y at *
    generalize w.getD (t - 16) 0 = p at *
    generalize w.getD (t - 7) 0 = q at *
    have rdw : ∀ X, RdS 1 (some ⟨b2, 0, none⟩) 64 (wm w) (pts b2 (.cells (wm w).toArray 63) :: X) := fun X => RdS.all (by rw [hwm])
    refine go ?_
    refine W.drawA rfl (by kernel_rfl) (by kernel_rfl) ?_
    refine go ?_
    refine DA.q (v := w32 x) rfl rfl (SV.loadR (t - 15) rfl (rdw _) (by omega) gx eqq) ?_
    refine go ?_
    refine DA.q (v := w32 y) rfl rfl (SV.loadR (t - 2) rfl (rdw _) (by omega) gy eqq) ?_
    refine go ?_
    refine W.drawC 29 #[0, 0, 2, 6, 14, 0, 32, 0, 224, 480, 0, 1024, 4064, 8190, 0, 16384, 49152, 114688, 262142, 0, 524768, 0, 3670496, 7864800, 0, 16777216, 66585056, 134217726, 268435455, 536870911] [pts b2 (.cells (wm w).toArray 63)] L rfl (by kernel_rfl) (by kernel_rfl) (by kernel_rfl) (by kernel_rfl) rfl rfl rfl ent ?_
    refine go ?_
    refine DB.q (v := w32 p) rfl rfl hl (SV.loadR (t - 16) rfl (rdw _) (by omega) ga eqq) ?_
    refine go ?_
    refine DB.callE (vs := [w32 x, .int .i64 ((7 : Nat) : Int)]) Try.func78 rfl rfl rfl rfl hl hl (sh_turn x 7 _ (by decide) (by decide)) ?_
    rintro v M ⟨rfl, rfl⟩
    refine ⟨[], L, ent, ?_⟩
    refine go ?_
    refine DB.callE (vs := [w32 x, .int .i64 ((18 : Nat) : Int)]) Try.func78 rfl rfl rfl rfl hl hl (sh_turn x 18 _ (by decide) (by decide)) ?_
    rintro v M ⟨rfl, rfl⟩
    refine ⟨[], L, ent, ?_⟩
    refine DB.q (v := w32 (rotr x 7 ^^^ rotr x 18)) rfl rfl hl (SV.xor32 rfl rfl eqq) ?_
    refine go ?_
    refine DB.q (v := w32 (x >>> UInt32.ofNat 3)) rfl rfl hl (SV.shr32 (a := x) (n := 3) rfl rfl (by decide) eqq) ?_
    refine DB.q (v := w32 ((rotr x 7 ^^^ rotr x 18) ^^^ (x >>> UInt32.ofNat 3))) rfl rfl hl (SV.xor32 rfl rfl eqq) ?_
    refine DB.q (v := w32 (p + ((rotr x 7 ^^^ rotr x 18) ^^^ (x >>> UInt32.ofNat 3)))) rfl rfl hl (SV.add32 rfl rfl eqq) ?_
    refine go ?_
    refine DB.q (v := w32 q) rfl rfl hl (SV.loadR (t - 7) rfl (rdw _) (by omega) gb eqq) ?_
    refine DB.q (v := w32 ((p + ((rotr x 7 ^^^ rotr x 18) ^^^ (x >>> UInt32.ofNat 3))) + q)) rfl rfl hl (SV.add32 rfl rfl eqq) ?_
    refine go ?_
    refine DB.callE (vs := [w32 y, .int .i64 ((17 : Nat) : Int)]) Try.func78 rfl rfl rfl rfl hl hl (sh_turn y 17 _ (by decide) (by decide)) ?_
    rintro v M ⟨rfl, rfl⟩
    refine ⟨[], L, ent, ?_⟩
    refine go ?_
    refine DB.callE (vs := [w32 y, .int .i64 ((19 : Nat) : Int)]) Try.func78 rfl rfl rfl rfl hl hl (sh_turn y 19 _ (by decide) (by decide)) ?_
    rintro v M ⟨rfl, rfl⟩
    refine ⟨[], L, ent, ?_⟩
    refine DB.q (v := w32 (rotr y 17 ^^^ rotr y 19)) rfl rfl hl (SV.xor32 rfl rfl eqq) ?_
    refine go ?_
    refine DB.q (v := w32 (y >>> UInt32.ofNat 10)) rfl rfl hl (SV.shr32 (a := y) (n := 10) rfl rfl (by decide) eqq) ?_
    refine DB.q (v := w32 ((rotr y 17 ^^^ rotr y 19) ^^^ (y >>> UInt32.ofNat 10))) rfl rfl hl (SV.xor32 rfl rfl eqq) ?_
    refine DB.q (v := w32 (((p + ((rotr x 7 ^^^ rotr x 18) ^^^ (x >>> UInt32.ofNat 3))) + q) + ((rotr y 17 ^^^ rotr y 19) ^^^ (y >>> UInt32.ofNat 10)))) rfl rfl hl (SV.add32 rfl rfl eqq) ?_
    rw [← hwd]
    refine go ?_
    refine ⟨pts b2 (.cells (wm w).toArray 63) :: L, ent, OW.sv ?_⟩
    refine SV.storeS (v := w32 (wd buf w)) rfl rfl rfl (.inl (Nat.le_refl _)) (by rw [hwm]; omega) ?_
    rw [show 0 + (t : Int).toNat * 1 = t by omega, hset]
    refine ⟨_, Ent.refl _, ?_⟩
    refine go ?_
    refine ⟨t + 1, ⟨rfl, trivial⟩, rfl, h, by omega, ?_⟩
    rw [hnext]
    exact Ent.app ent
end Go.SL

/- Layer 2 (sha): a block is mixed in, walked. -/
namespace Go.SL
open Go.Proofs
set_option linter.unusedVariables false
set_option linter.unusedSimpArgs false
set_option linter.unusedSectionVars false
set_option maxRecDepth 10000
set_option maxHeartbeats 4000000
attribute [local irreducible] W WO SV OW SW Tri Ent Tk Has Src SrcK DA DB DP RdS Own OwnT MapH

structure R8 where
  a : UInt32
  b : UInt32
  c : UInt32
  d : UInt32
  e : UInt32
  f : UInt32
  g : UInt32
  i : UInt32
def t1F (k w : UInt32) (s : R8) : UInt32 := (((s.i + ((rotr s.e 6 ^^^ rotr s.e 11) ^^^ rotr s.e 25)) + ((s.e &&& s.f) ^^^ (~~~s.e &&& s.g))) + k) + w
def t2F (s : R8) : UInt32 := ((rotr s.a 2 ^^^ rotr s.a 13) ^^^ rotr s.a 22) + (((s.a &&& s.b) ^^^ (s.a &&& s.c)) ^^^ (s.b &&& s.c))
def round (k w : UInt32) (s : R8) : R8 := ⟨t1F k w s + t2F s, s.a, s.b, s.c, s.d + t1F k w s, s.e, s.f, s.g⟩
def rdn (ks ws : List UInt32) (s : R8) : Nat → R8
  | 0 => s
  | t + 1 => round (ks.getD t 0) (ws.getD t 0) (rdn ks ws s t)
def r8L (s : R8) : List UInt32 := [s.a, s.b, s.c, s.d, s.e, s.f, s.g, s.i]
theorem hsL_st {st k : List UInt32} {buf : BL} {n : Nat} (h : HsOk st k buf) {i : Nat} (hi : i < 8) : (hsL st k buf n)[1 + i]? = some (w32 (st.getD i 0)) := by
  unfold hsL
  rw [Nat.add_comm, List.getElem?_cons_succ, List.getElem?_append_left (by simp [h.st]; omega), List.getElem?_map, List.getD_eq_getElem?_getD, List.getElem?_eq_getElem (by rw [h.st]; exact hi)]; rfl
theorem hsL_k {st k : List UInt32} {buf : BL} {n : Nat} (h : HsOk st k buf) {i : Nat} (hi : i < 64) : (hsL st k buf n)[9 + i]? = some (w32 (k.getD i 0)) := by
  unfold hsL
  rw [show 9 + i = (8 + i) + 1 by omega, List.getElem?_cons_succ, List.getElem?_append_right (by simp [h.st]), List.getElem?_append_left (by simp [h.st, h.k]; omega)]
  simp only [List.length_map, h.st]
  rw [show 8 + i - 8 = i by omega, List.getElem?_map, List.getD_eq_getElem?_getD, List.getElem?_eq_getElem (by rw [h.k]; exact hi)]; rfl
theorem hsL_setSt {st k : List UInt32} {buf : BL} {n : Nat} (h : HsOk st k buf) {i : Nat} (hi : i < 8) (v : UInt32) : (hsL st k buf n).set (1 + i) (w32 v) = hsL (st.set i v) k buf n := by
  unfold hsL
  rw [Nat.add_comm, List.set_cons_succ, List.set_append_left _ _ (by simp [h.st]; exact hi), List.map_set]
theorem hsL_stN {st k : List UInt32} {buf : BL} {n : Nat} (h : HsOk st k buf) : lsub (hsL st k buf n) 1 8 = st.map w32 := by
  rw [lsub_eq]
  unfold hsL
  rw [List.drop_one, List.tail_cons, List.take_append_of_le_length (by simp [h.st]), List.take_of_length_le (by simp [h.st])]
theorem w32_ne {ws : List UInt32} {n : Nat} (h : ws.length = n + 1) : (ws.map w32).isEmpty = false := by
  cases ws with
  | nil => cases h
  | cons _ _ => rfl
theorem w32_cell (ws : List UInt32) : (ws.map w32).all isCell = true := by
  rw [List.all_eq_true]
  intro x hx
  obtain ⟨j, _, rfl⟩ := List.mem_map.1 hx
  rfl
theorem w32_get {ws : List UInt32} {j : Nat} (h : j < ws.length) : (ws.map w32)[j]? = some (w32 (ws.getD j 0)) := by
  rw [List.getElem?_map, List.getD_eq_getElem?_getD, List.getElem?_eq_getElem h]; rfl
def s0F (st : List UInt32) : R8 := ⟨st.getD 0 0, st.getD 1 0, st.getD 2 0, st.getD 3 0, st.getD 4 0, st.getD 5 0, st.getD 6 0, st.getD 7 0⟩
theorem r8_at (s : R8) {j : Nat} (h : j < 8) : ([w32 s.a, w32 s.b, w32 s.c, w32 s.d, w32 s.e, w32 s.f, w32 s.g, w32 s.i] : List Value)[j]? = some (w32 ((r8L s).getD j 0)) := by
  match j, h with
  | 0, _ => rfl
  | 1, _ => rfl
  | 2, _ => rfl
  | 3, _ => rfl
  | 4, _ => rfl
  | 5, _ => rfl
  | 6, _ => rfl
  | 7, _ => rfl
/-- The state as its first j words have taken in a round's. -/
def addS (st : List UInt32) (r : R8) : Nat → List UInt32
  | 0 => st
  | j + 1 => (addS st r j).set j ((addS st r j).getD j 0 + (r8L r).getD j 0)
theorem addS_len (st : List UInt32) (r : R8) : ∀ j, (addS st r j).length = st.length
  | 0 => rfl
  | j + 1 => by simp [addS, addS_len st r j]
def mixF (st ks : List UInt32) (buf : BL) : List UInt32 := addS st (rdn ks (wsq buf 64) (s0F st) 64) 8
theorem mixF_len (st ks : List UInt32) (buf : BL) : (mixF st ks buf).length = st.length := addS_len _ _ _
theorem w32_addw (a b : UInt32) : Value.int .u32 (IntKind.wrap .u32 ((a.toNat : Int) + (b.toNat : Int))) = w32 (a + b) := by
  unfold w32
  rw [UInt32.toNat_add]
  have := a.toNat_lt
  have := b.toNat_lt
  simp [IntKind.wrap, IntKind.bits, IntKind.signed]
theorem sh_mix (b : Nat) (st k : List UInt32) (buf : BL) (n : Nat) (L : List HP) (ok : HsOk st k buf) :
    TriE Try.prog 67 #[.pointer (some ⟨b, 0, none⟩)] (fun v M => v = .tuple #[] ∧ M = pts b (.cells (hsL (mixF st k buf) k buf n).toArray 121) :: L) (pts b (.cells (hsL st k buf n).toArray 121) :: L) := by
  have hl138 := hsL_len (n := n) ok
  have hstN := hsL_stN (n := n) ok
  have hk := fun i (hi : i < 64) => hsL_k (n := n) ok hi
  have hwl := wsq_len buf 64
  have hmf : mixF st k buf = addS st (rdn k (wsq buf 64) (s0F st) 64) 8 := rfl
  have hst8 := ok.st
  refine Tri.of (N := 130) (args := [.pointer (some ⟨b, 0, none⟩)]) Try.func67 rfl rfl rfl ?_
  refine go ?_
  refine WO.callE (vs := [.pointer (some ⟨b, 0, none⟩)]) Try.func77 rfl rfl rfl rfl (sh_words b st k buf n _ _ _ ok inferInstance) ?_
  rintro v M ⟨rfl, rfl⟩
  generalize wsq buf 64 = ws at *
  have hml : (ws.map w32).length = 64 := by rw [List.length_map, hwl]
  have hml8 : (st.map w32).length = 8 := by rw [List.length_map, hst8]
  refine go ?_
  intro b2
  refine go ?_
  refine WO.sv rfl ?_
  refine SV.store (vs := ws.map w32) (l' := ws.map w32) rfl rfl Cel.agg (by rw [hml]; rfl) (w32_ne hwl) (w32_cell ws) (.inl (Nat.le_refl _)) (by decide) (lput_full (by rw [hml]; rfl)) ?_
  refine go ?_
  refine WO.sv rfl ?_
  have rdh : ∀ X, RdS 1 (some ⟨b, 0, none⟩) 138 (hsL st k buf n) (pts b (.cells (hsL st k buf n).toArray 121) :: X) := fun X => RdS.all (sz := 1) (n := 138) (by rw [hl138])
  have rdw : ∀ X, RdS 1 (some ⟨b2, 0, none⟩) 64 (ws.map w32) (pts b2 (.cells (ws.map w32).toArray 63) :: X) := fun X => RdS.all (sz := 1) (n := 64) (by rw [hml])
  refine SV.loadRN (k := 8) (vs := st.map w32) 1 rfl (rdh _).cons rfl (by decide) (by rw [hl138]; decide) hstN ?_
  refine go ?_
  intro b3
  refine go ?_
  refine WO.sv rfl ?_
  refine SV.store (vs := st.map w32) (l' := st.map w32) rfl rfl Cel.agg (by rw [hml8]; rfl) (w32_ne hst8) (w32_cell st) (.inl (Nat.le_refl _)) (by decide) (lput_full (by rw [hml8]; rfl)) ?_
  have rds3 : ∀ X, RdS 1 (some ⟨b3, 0, none⟩) 8 (st.map w32) (pts b3 (.cells (st.map w32).toArray 64) :: X) := fun X => RdS.all (sz := 1) (n := 8) (by rw [hml8])
  have gs := fun j (h : j < 8) => w32_get (ws := st) (j := j) (by omega)
  refine go ?_
  refine W.drawA rfl (by kernel_rfl) (by kernel_rfl) ?_
  refine go ?_
  refine DA.q (v := w32 (st.getD 0 0)) rfl rfl (SV.loadR 0 rfl (rds3 _) (by omega) (gs 0 (by decide)) eqq) ?_
  refine go ?_
  refine DA.q (v := w32 (st.getD 1 0)) rfl rfl (SV.loadR 1 rfl (rds3 _) (by omega) (gs 1 (by decide)) eqq) ?_
  refine go ?_
  refine DA.q (v := w32 (st.getD 2 0)) rfl rfl (SV.loadR 2 rfl (rds3 _) (by omega) (gs 2 (by decide)) eqq) ?_
  refine go ?_
  refine DA.q (v := w32 (st.getD 3 0)) rfl rfl (SV.loadR 3 rfl (rds3 _) (by omega) (gs 3 (by decide)) eqq) ?_
  refine go ?_
  refine DA.q (v := w32 (st.getD 4 0)) rfl rfl (SV.loadR 4 rfl (rds3 _) (by omega) (gs 4 (by decide)) eqq) ?_
  refine go ?_
  refine DA.q (v := w32 (st.getD 5 0)) rfl rfl (SV.loadR 5 rfl (rds3 _) (by omega) (gs 5 (by decide)) eqq) ?_
  refine go ?_
  refine DA.q (v := w32 (st.getD 6 0)) rfl rfl (SV.loadR 6 rfl (rds3 _) (by omega) (gs 6 (by decide)) eqq) ?_
  refine go ?_
  refine DA.q (v := w32 (st.getD 7 0)) rfl rfl (SV.loadR 7 rfl (rds3 _) (by omega) (gs 7 (by decide)) eqq) ?_
  refine go ?_
  refine W.loopS 40564819207303340847344746790896 rfl (fun t : Nat => [(39, .int .i64 (t : Int)), (4, w32 (rdn k ws (s0F st) t).a), (5, w32 (rdn k ws (s0F st) t).b), (6, w32 (rdn k ws (s0F st) t).c), (7, w32 (rdn k ws (s0F st) t).d), (8, w32 (rdn k ws (s0F st) t).e), (9, w32 (rdn k ws (s0F st) t).f), (10, w32 (rdn k ws (s0F st) t).g), (11, w32 (rdn k ws (s0F st) t).i)]) (fun t => pts b2 (.cells (ws.map w32).toArray 63) :: pts b (.cells (hsL st k buf n).toArray 121) :: L) (fun t => t ≤ 64) (fun t => 64 - t) 0 ⟨rfl, rfl, rfl, rfl, rfl, rfl, rfl, rfl, rfl, trivial⟩ (Nat.zero_le _) (Ent.app ent) ?_
  intro t bg ht
  have hnx : rdn k ws (s0F st) (t + 1) = round (k.getD t 0) (ws.getD t 0) (rdn k ws (s0F st) t) := rfl
  by_cases h : t < 64
  rotate_left
  · obtain rfl : t = 64 := by omega
    generalize hr : rdn k ws (s0F st) 64 = r at *
    refine go ?_
    refine WO.sv rfl ?_
    refine SV.buildArr (Parts.cons (v := w32 r.a) rfl cel (Parts.cons (v := w32 r.b) rfl cel (Parts.cons (v := w32 r.c) rfl cel (Parts.cons (v := w32 r.d) rfl cel (Parts.cons (v := w32 r.e) rfl cel (Parts.cons (v := w32 r.f) rfl cel (Parts.cons (v := w32 r.g) rfl cel (Parts.cons (v := w32 r.i) rfl cel Parts.nil)))))))) rfl nl ?_
    refine go ?_
    have hmf' : mixF st k buf = addS st r 8 := hmf
    rw [hmf']
    have hr8 := fun j (h : j < 8) => r8_at r h
    generalize hrl : ([w32 r.a, w32 r.b, w32 r.c, w32 r.d, w32 r.e, w32 r.f, w32 r.g, w32 r.i] : List Value) = rl at *
    refine W.loopS 1361108698496319714542984307741756063744 rfl (fun t : Nat => [(114, .int .i64 (t : Int))]) (fun t => pts b (.cells (hsL (addS st r t) k buf n).toArray 121) :: L) (fun t => t ≤ 8) (fun t => 8 - t) 0 ⟨rfl, trivial⟩ (Nat.zero_le _) (Ent.app ent) ?_
    intro t bg ht
    by_cases h : t < 8
    rotate_left
    · obtain rfl : t = 8 := by omega
      refine go ?_
      exact ⟨rfl, [], trivial, _, ent, rfl, rfl⟩
    have okt : HsOk (addS st r t) k buf := ⟨by rw [addS_len, hst8], ok.k, ok.buf⟩
    have gi := hsL_st (n := n) okt h
    have hset := hsL_setSt (n := n) okt h ((addS st r t).getD t 0 + (r8L r).getD t 0)
    have hlen := hsL_len (n := n) okt
    have hnxt : addS st r (t + 1) = (addS st r t).set t ((addS st r t).getD t 0 + (r8L r).getD t 0) := rfl
    have gr := hr8 t h
    generalize addS st r t = s at *
    generalize (s.getD t 0) = x at *
    generalize ((r8L r).getD t 0) = y at *
    have rdt : ∀ X, RdS 1 (some ⟨b, 0, none⟩) 138 (hsL s k buf n) (pts b (.cells (hsL s k buf n).toArray 121) :: X) := fun X => RdS.all (sz := 1) (n := 138) (by rw [hlen])
    refine go ?_
    refine WO.sv rfl ?_
    refine SV.indexA (v := w32 y) rfl rfl (by omega) (by omega) (by rw [lget_eq]; simpa using gr) ?_
    refine go ?_
    refine W.drawA rfl (by kernel_rfl) (by kernel_rfl) ?_
    refine go ?_
    refine DA.q (v := w32 x) rfl rfl (SV.loadR (1 + t) rfl (rdt _) (by omega) gi eqq) ?_
    refine DA.q (v := w32 y) rfl rfl (SV.move rfl eqq) ?_
    refine DA.q (v := w32 (x + y)) rfl rfl (SV.add32 rfl rfl eqq) ?_
    refine go ?_
    refine DA.v rfl rfl rfl ?_
    refine SV.storeS (v := w32 (x + y)) rfl rfl rfl (.inl (Nat.le_refl _)) (by rw [hlen]; omega) ?_
    rw [show 0 + 1 + (t : Int).toNat * 1 = 1 + t by omega, hset]
    refine go ?_
    refine ⟨t + 1, ⟨rfl, trivial⟩, rfl, h, by omega, ?_⟩
    rw [hnxt]
    exact Ent.app ent
  have gk := hk t h
  have gw : (ws.map w32)[t]? = some (w32 (ws.getD t 0)) := w32_get (by omega)
  generalize hr : rdn k ws (s0F st) t = r at *
  generalize k.getD t 0 = kt at *
  generalize ws.getD t 0 = wt at *
  rw [show (round kt wt r) = ⟨t1F kt wt r + t2F r, r.a, r.b, r.c, r.d + t1F kt wt r, r.e, r.f, r.g⟩ from rfl] at hnx
  have e1 : t1F kt wt r = (((r.i + ((rotr r.e 6 ^^^ rotr r.e 11) ^^^ rotr r.e 25)) + ((r.e &&& r.f) ^^^ (~~~r.e &&& r.g))) + kt) + wt := rfl
  have e2 : t2F r = ((rotr r.a 2 ^^^ rotr r.a 13) ^^^ rotr r.a 22) + (((r.a &&& r.b) ^^^ (r.a &&& r.c)) ^^^ (r.b &&& r.c)) := rfl
  obtain ⟨ra, rb, rc, rd, re, rf, rg, ri⟩ := r
  refine go ?_
  refine W.drawB #[0, 0, 2, 0, 14, 30, 0, 94, 254, 511, 0, 0, 3072, 0, 8192, 0, 57344, 130048, 262143, 0, 0, 524288, 2621440, 7864320, 16252928, 33554431, 0, 67108864, 201326592, 536870911, 1073741823] [pts b2 (.cells (ws.map w32).toArray 63), pts b (.cells (hsL st k buf n).toArray 121)] L rfl (by kernel_rfl) (by kernel_rfl) (by kernel_rfl) ent ?_
  refine go ?_
  refine DB.callE (vs := [w32 re, .int .i64 ((6 : Nat) : Int)]) Try.func78 rfl rfl rfl rfl hl hl (sh_turn re 6 _ (by decide) (by decide)) ?_
  rintro v M ⟨rfl, rfl⟩
  refine ⟨[], L, ent, ?_⟩
  refine go ?_
  refine DB.callE (vs := [w32 re, .int .i64 ((11 : Nat) : Int)]) Try.func78 rfl rfl rfl rfl hl hl (sh_turn re 11 _ (by decide) (by decide)) ?_
  rintro v M ⟨rfl, rfl⟩
  refine ⟨[], L, ent, ?_⟩
  refine go ?_
  refine DB.q (v := w32 (rotr re 6 ^^^ rotr re 11)) rfl rfl hl (SV.xor32 rfl rfl eqq) ?_
  refine go ?_
  refine DB.callE (vs := [w32 re, .int .i64 ((25 : Nat) : Int)]) Try.func78 rfl rfl rfl rfl hl hl (sh_turn re 25 _ (by decide) (by decide)) ?_
  rintro v M ⟨rfl, rfl⟩
  refine ⟨[], L, ent, ?_⟩
  refine go ?_
  refine DB.q (v := w32 ((rotr re 6 ^^^ rotr re 11) ^^^ rotr re 25)) rfl rfl hl (SV.xor32 rfl rfl eqq) ?_
  refine DB.q (v := w32 (ri + ((rotr re 6 ^^^ rotr re 11) ^^^ rotr re 25))) rfl rfl hl (SV.add32 rfl rfl eqq) ?_
  refine go ?_
  refine DB.q (v := w32 (re &&& rf)) rfl rfl hl (SV.and32 rfl rfl eqq) ?_
  refine go ?_
  refine DB.q (v := w32 (~~~re)) rfl rfl hl (SV.not32 rfl eqq) ?_
  refine go ?_
  refine DB.q (v := w32 (~~~re &&& rg)) rfl rfl hl (SV.and32 rfl rfl eqq) ?_
  refine go ?_
  refine DB.q (v := w32 ((re &&& rf) ^^^ (~~~re &&& rg))) rfl rfl hl (SV.xor32 rfl rfl eqq) ?_
  refine DB.q (v := w32 ((ri + ((rotr re 6 ^^^ rotr re 11) ^^^ rotr re 25)) + ((re &&& rf) ^^^ (~~~re &&& rg)))) rfl rfl hl (SV.add32 rfl rfl eqq) ?_
  refine go ?_
  refine DB.q (v := w32 kt) rfl rfl hl (SV.loadR (9 + t) rfl (rdh _).cons (by omega) gk eqq) ?_
  refine DB.q (v := w32 (((ri + ((rotr re 6 ^^^ rotr re 11) ^^^ rotr re 25)) + ((re &&& rf) ^^^ (~~~re &&& rg))) + kt)) rfl rfl hl (SV.add32 rfl rfl eqq) ?_
  refine go ?_
  refine DB.q (v := w32 wt) rfl rfl hl (SV.loadR t rfl (rdw _) (by omega) gw eqq) ?_
  refine DB.q (v := w32 ((((ri + ((rotr re 6 ^^^ rotr re 11) ^^^ rotr re 25)) + ((re &&& rf) ^^^ (~~~re &&& rg))) + kt) + wt)) rfl rfl hl (SV.add32 rfl rfl eqq) ?_
  refine go ?_
  rw [show ((((ri + ((rotr re 6 ^^^ rotr re 11) ^^^ rotr re 25)) + ((re &&& rf) ^^^ (~~~re &&& rg))) + kt) + wt) = t1F kt wt ⟨ra, rb, rc, rd, re, rf, rg, ri⟩ from e1.symm]
  generalize t1F kt wt ⟨ra, rb, rc, rd, re, rf, rg, ri⟩ = T1 at *
  refine ⟨pts b2 (.cells (ws.map w32).toArray 63) :: pts b (.cells (hsL st k buf n).toArray 121) :: L, ent, ?_⟩
  refine go ?_
  refine WO.callE (vs := [w32 ra, .int .i64 ((2 : Nat) : Int)]) Try.func78 rfl rfl rfl rfl (sh_turn ra 2 _ (by decide) (by decide)) ?_
  rintro v M ⟨rfl, rfl⟩
  refine go ?_
  refine WO.callE (vs := [w32 ra, .int .i64 ((13 : Nat) : Int)]) Try.func78 rfl rfl rfl rfl (sh_turn ra 13 _ (by decide) (by decide)) ?_
  rintro v M ⟨rfl, rfl⟩
  refine go ?_
  refine WO.sv rfl ?_
  refine SV.xor32 rfl rfl ?_
  refine go ?_
  refine WO.callE (vs := [w32 ra, .int .i64 ((22 : Nat) : Int)]) Try.func78 rfl rfl rfl rfl (sh_turn ra 22 _ (by decide) (by decide)) ?_
  rintro v M ⟨rfl, rfl⟩
  refine go ?_
  refine WO.sv rfl ?_
  refine SV.xor32 rfl rfl ?_
  refine go ?_
  refine WO.sv rfl ?_
  refine SV.and32 rfl rfl ?_
  refine go ?_
  refine WO.sv rfl ?_
  refine SV.and32 rfl rfl ?_
  refine go ?_
  refine WO.sv rfl ?_
  refine SV.xor32 rfl rfl ?_
  refine go ?_
  refine WO.sv rfl ?_
  refine SV.and32 rfl rfl ?_
  refine go ?_
  refine WO.sv rfl ?_
  refine SV.xor32 rfl rfl ?_
  refine WO.sv rfl ?_
  refine SV.add32 rfl rfl ?_
  rw [show (((rotr ra 2 ^^^ rotr ra 13) ^^^ rotr ra 22) + (((ra &&& rb) ^^^ (ra &&& rc)) ^^^ (rb &&& rc))) = t2F ⟨ra, rb, rc, rd, re, rf, rg, ri⟩ from e2.symm]
  refine go ?_
  generalize t2F ⟨ra, rb, rc, rd, re, rf, rg, ri⟩ = T2 at *
  refine ⟨t + 1, ?_, rfl, h, by omega, ?_⟩
  · rw [hnx]
    exact ⟨rfl, w32_addw T1 T2, rfl, rfl, rfl, w32_addw rd T1, rfl, rfl, rfl, trivial⟩
  exact Ent.app ent
end Go.SL

/- Layer 2 (sha): bytes are taken in, walked. -/
namespace Go.SL
open Go.Proofs
set_option linter.unusedVariables false
set_option linter.unusedSimpArgs false
set_option linter.unusedSectionVars false
set_option maxRecDepth 10000
set_option maxHeartbeats 4000000

theorem lput_mid2 (C : List Value) : ∀ (A B B' : List Value), B'.length = B.length → lput (A ++ (B ++ C)) A.length B' = A ++ (B' ++ C)
  | [], [], [], _ => by cases C <;> rfl
  | [], x :: B, y :: B', h => by
    have ih := lput_mid2 C [] B B' (by simpa using h)
    simp only [List.nil_append, List.length_nil, List.cons_append, lput] at ih ⊢
    rw [ih]
  | a :: A, B, B', h => by
    have ih := lput_mid2 C A B B' h
    cases B' with
    | nil =>
      have : B = [] := List.eq_nil_of_length_eq_zero h.symm
      subst this
      rfl
    | cons y B' =>
      simp only [List.cons_append, List.length_cons, lput]
      rw [ih]; rfl
attribute [local irreducible] W WO SV OW SW Tri Ent Tk Has Src SrcK DA DB DP RdS Own OwnT MapH

def putB (buf : BL) (i : Nat) (xs : BL) : BL := buf.take i ++ (xs ++ buf.drop (i + xs.length))
theorem putB_len {buf xs : BL} {i : Nat} (h : i + xs.length ≤ buf.length) : (putB buf i xs).length = buf.length := by
  simp [putB]; omega
theorem hsL_put {st k : List UInt32} {buf : BL} {n : Nat} (h : HsOk st k buf) {i : Nat} {xs : BL} (hi : i + xs.length ≤ 64) : lput (hsL st k buf n) (73 + i) (xs.map u8V) = hsL st k (putB buf i xs) n := by
  have hb := h.buf
  have e : hsL st k buf n = (.bool true :: (st.map w32 ++ (k.map w32 ++ (buf.take i).map u8V))) ++ (((buf.drop i).take xs.length).map u8V ++ ((buf.drop (i + xs.length)).map u8V ++ [.int .u64 (n : Int)])) := by
    unfold hsL
    have : buf = buf.take i ++ ((buf.drop i).take xs.length ++ buf.drop (i + xs.length)) := by
      rw [← List.drop_drop, List.take_append_drop, List.take_append_drop]
    conv => lhs; rw [this]
    simp [List.append_assoc]
  have el : (.bool true :: (st.map w32 ++ (k.map w32 ++ (buf.take i).map u8V))).length = 73 + i := by simp [h.st, h.k]; omega
  rw [e, ← el, lput_mid2 _ _ _ _ (by simp; omega)]
  unfold hsL putB
  simp [List.append_assoc]
theorem hsL_n {st k : List UInt32} {buf : BL} {n : Nat} (h : HsOk st k buf) : (hsL st k buf n)[137]? = some (.int .u64 (n : Int)) := by
  unfold hsL
  rw [show 137 = 136 + 1 from rfl, List.getElem?_cons_succ, List.getElem?_append_right (by simp [h.st]), List.getElem?_append_right (by simp [h.st, h.k]), List.getElem?_append_right (by simp [h.st, h.k, h.buf])]
  simp [h.st, h.k, h.buf]
theorem hsL_setN {st k : List UInt32} {buf : BL} {n n' : Nat} (h : HsOk st k buf) : (hsL st k buf n).set 137 (.int .u64 (n' : Int)) = hsL st k buf n' := by
  unfold hsL
  rw [show 137 = 136 + 1 from rfl, List.set_cons_succ, List.set_append_right _ _ (by simp [h.st]), List.set_append_right _ _ (by simp [h.st, h.k]), List.set_append_right _ _ (by simp [h.st, h.k, h.buf])]
  simp [h.st, h.k, h.buf]
theorem RdS.drop1 {m n b off : Nat} {xs : List Value} {L : List HP} (r : RdS 1 (some ⟨b, off, none⟩) n xs L) (h : m ≤ n) : RdS 1 (some ⟨b, off + m, none⟩) (n - m) (xs.drop m) L := by
  have hx := r.len
  unfold RdS at *
  refine ⟨by simp; omega, fun _ => ⟨b, off + m, rfl⟩, fun b' off' e h0 q x => ?_⟩
  injection e with e
  injection e with e1 e2
  subst e1; subst e2
  obtain ⟨l, T, fr, q1, q2, q3⟩ := r.2.2 b off rfl (by omega) q x
  refine ⟨l, T, fr, q1, by omega, ?_⟩
  rw [lsub_eq] at q3 ⊢
  rw [← q3]
  simp only [Nat.mul_one]
  rw [List.drop_take, List.drop_drop]

/-- A hash: its state, its block, and how many bytes. -/
structure HS where
  st : List UInt32
  buf : BL
  n : Nat
def tkOne (k : List UInt32) (h : HS) (bs : BL) : HS :=
  let b := putB h.buf (h.n % 64) (bs.take (64 - h.n % 64))
  ⟨if h.n % 64 + min bs.length (64 - h.n % 64) = 64 then mixF h.st k b else h.st, b, h.n + min bs.length (64 - h.n % 64)⟩
def takeN (k : List UInt32) : Nat → HS → BL → HS
  | 0, h, _ => h
  | f + 1, h, bs => if bs.length = 0 then h else takeN k f (tkOne k h bs) (bs.drop (64 - h.n % 64))
theorem takeN_more (k : List UInt32) : ∀ (f g : Nat) (h : HS) (bs : BL), bs.length ≤ f → bs.length ≤ g → takeN k f h bs = takeN k g h bs := by
  intro f
  induction f with
  | zero =>
    intro g h bs h1 h2
    have : bs.length = 0 := by omega
    cases g with
    | zero => rfl
    | succ g => simp [takeN, this]
  | succ f ih =>
    intro g h bs h1 h2
    cases g with
    | zero =>
      have : bs.length = 0 := by omega
      simp [takeN, this]
    | succ g =>
      unfold takeN
      split
      · rfl
      · have : 64 - h.n % 64 ≥ 1 := by have := Nat.mod_lt h.n (show 0 < 64 by decide); omega
        refine ih g _ _ ?_ ?_ <;> simp <;> omega
def takeF (k : List UInt32) (h : HS) (bs : BL) : HS := takeN k bs.length h bs
theorem takeF_nil (k : List UInt32) (h : HS) {bs : BL} (e : bs.length = 0) : takeF k h bs = h := by simp [takeF, e, takeN]
theorem takeF_cons (k : List UInt32) (h : HS) {bs : BL} (e : bs.length ≠ 0) : takeF k h bs = takeF k (tkOne k h bs) (bs.drop (64 - h.n % 64)) := by
  unfold takeF
  obtain ⟨f, hf⟩ : ∃ f, bs.length = f + 1 := ⟨bs.length - 1, by omega⟩
  rw [show takeN k bs.length h bs = takeN k (f + 1) h bs by rw [hf], show takeN k (f + 1) h bs = if bs.length = 0 then h else takeN k f (tkOne k h bs) (bs.drop (64 - h.n % 64)) from rfl, if_neg e]
  have : 64 - h.n % 64 ≥ 1 := by have := Nat.mod_lt h.n (show 0 < 64 by decide); omega
  refine takeN_more k _ _ _ _ ?_ ?_ <;> simp <;> omega
structure HOk (k : List UInt32) (h : HS) : Prop where
  st : h.st.length = 8
  k : k.length = 64
  buf : h.buf.length = 64
theorem HOk.ok {k : List UInt32} {h : HS} (x : HOk k h) : HsOk h.st k h.buf := ⟨x.st, x.k, x.buf⟩
theorem tkOne_ok {k : List UInt32} {h : HS} (x : HOk k h) (bs : BL) : HOk k (tkOne k h bs) := by
  have hb : (putB h.buf (h.n % 64) (bs.take (64 - h.n % 64))).length = 64 := by
    rw [putB_len (by simp [x.buf]; omega), x.buf]
  refine ⟨?_, x.k, hb⟩
  unfold tkOne
  dsimp only
  split
  · rw [mixF_len, x.st]
  · exact x.st
theorem takeF_ok {k : List UInt32} : ∀ (f : Nat) {h : HS} (x : HOk k h) (bs : BL), HOk k (takeN k f h bs)
  | 0, _, x, _ => x
  | f + 1, h, x, bs => by
    unfold takeN
    split
    · exact x
    · exact takeF_ok f (tkOne_ok x bs) _
theorem sh_none (b : Nat) (h : HS) (k : List UInt32) (L : List HP) [r : Rd L b (.cells (hsL h.st k h.buf h.n).toArray 121 (0, 0))] :
    TriE Try.prog 66 #[.pointer (some ⟨b, 0, none⟩)] (fun v M => v = .bool false ∧ M = L) L := by
  refine Tri.of (N := 12) (args := [.pointer (some ⟨b, 0, none⟩)]) Try.func66 rfl rfl rfl ?_
  refine go ?_
  exact ⟨rfl, [_], ⟨Res.tmp rfl, trivial⟩, L, ent, rfl, rfl⟩
attribute [local irreducible] hsL
structure TkS where
  h : HS
  bs : BL
  o : Nat
  c : Nat
theorem sh_Take (b : Nat) (h0 : HS) (k : List UInt32) (sb o c : Nat) (bs : BL) (L : List HP) (x0 : HOk k h0) (hn : h0.n + bs.length < 4611686018427387904) (hc : bs.length ≤ c) (r : ∀ X, RdS 1 (some ⟨sb, o, none⟩) bs.length (bs.map u8V) (X :: L)) :
    TriE Try.prog 48 #[.pointer (some ⟨b, 0, none⟩), .slice (some ⟨sb, o, none⟩) bs.length c]
      (fun v M => v = .tuple #[] ∧ M = pts b (.cells (hsL (takeF k h0 bs).st k (takeF k h0 bs).buf (takeF k h0 bs).n).toArray 121) :: L) (pts b (.cells (hsL h0.st k h0.buf h0.n).toArray 121) :: L) := by
  refine Tri.of (N := 42) (args := [.pointer (some ⟨b, 0, none⟩), .slice (some ⟨sb, o, none⟩) bs.length c]) Try.func48 rfl rfl rfl ?_
  refine go ?_
  refine WO.callE (vs := [.pointer (some ⟨b, 0, none⟩)]) Try.func66 rfl rfl rfl rfl (sh_none b h0 k _) ?_
  rintro v M ⟨rfl, rfl⟩
  refine go ?_
  refine W.loopS 4398046510898 rfl (fun s : TkS => [(1, .slice (some ⟨sb, s.o, none⟩) s.bs.length s.c)]) (fun s => pts b (.cells (hsL s.h.st k s.h.buf s.h.n).toArray 121) :: L)
    (fun s => HOk k s.h ∧ s.h.n + s.bs.length < 4611686018427387904 ∧ s.bs.length ≤ s.c ∧ (∀ X, RdS 1 (some ⟨sb, s.o, none⟩) s.bs.length (s.bs.map u8V) (X :: L)) ∧ takeF k s.h s.bs = takeF k h0 bs) (fun s => s.bs.length) ⟨h0, bs, o, c⟩ ⟨rfl, trivial⟩ ⟨x0, hn, hc, r, rfl⟩ (Ent.app ent) ?_
  clear r hc hn
  rintro ⟨h, bs', o', c'⟩ bg ⟨x, hn, hc, r, ht⟩
  dsimp only at x hn hc r ht ⊢
  rw [← ht]
  clear ht x0
  by_cases e : bs'.length = 0
  · rw [takeF_nil k h e]
    refine go ?_
    exact ⟨rfl, [], trivial, _, ent, rfl, rfl⟩
  have hnx := takeF_cons k h e
  have x' := tkOne_ok x bs'
  have hgn := hsL_n (n := h.n) x.ok
  have hlen := hsL_len (n := h.n) x.ok
  have rdh : ∀ X, RdS 1 (some ⟨b, 0, none⟩) 138 (hsL h.st k h.buf h.n) (pts b (.cells (hsL h.st k h.buf h.n).toArray 121) :: X) := fun X => RdS.all (sz := 1) (n := 138) (by rw [hlen])
  have hm : h.n % 64 < 64 := Nat.mod_lt _ (by decide)
  refine go ?_
  refine WO.sv rfl ?_
  refine SV.loadR 137 rfl (rdh _) rfl hgn ?_
  refine go ?_
  refine WO.sv rfl ?_
  refine SV.cutArr (l := h.n % 64) (h := 64) rfl (cutAt.of rfl (by omega)) rfl (by omega) (by omega) ?_
  intro off' hoff
  obtain rfl : off' = 73 + h.n % 64 := by have := hoff (.inl (by omega)); omega
  refine go ?_
  refine WO.sv rfl ?_
  have hput := hsL_put (n := h.n) x.ok (i := h.n % 64) (xs := bs'.take (64 - h.n % 64)) (by simp; omega)
  have htk : (bs'.map u8V).take (min bs'.length (64 - h.n % 64) * 1) = (bs'.take (64 - h.n % 64)).map u8V := by
    rw [Nat.mul_one, List.map_take]
    by_cases hq : bs'.length ≤ 64 - h.n % 64
    · rw [Nat.min_eq_left hq, List.take_of_length_le (by simp), List.take_of_length_le (by simp; omega)]
    · rw [Nat.min_eq_right (by omega)]
  refine SV.copy rfl rfl (r _).srcK (by simp [isCell, u8V]) (by rw [hlen]; omega) (.inl (Nat.le_refl _)) ?_ ?_
  rotate_left
  · intro hz
    rw [htk] at hz
    have := congrArg List.length hz
    rw [List.length_map, List.length_take, List.length_nil] at this
    omega
  rw [htk, hput]
  generalize hmm : min bs'.length (64 - h.n % 64) = m
  have hm1 : m ≤ bs'.length := by omega
  have hm2 : h.n % 64 + m ≤ 64 := by omega
  have hm3 : m ≠ 0 := by omega
  have hbl : (putB h.buf (h.n % 64) (bs'.take (64 - h.n % 64))).length = 64 := by rw [putB_len (by simp [x.buf]; omega), x.buf]
  have hdl : (bs'.drop (64 - h.n % 64)).length = bs'.length - m := by simp; omega
  have hdm : bs'.drop (64 - h.n % 64) = bs'.drop m := by
    by_cases hq : bs'.length ≤ 64 - h.n % 64
    · rw [List.drop_eq_nil_of_le hq, List.drop_eq_nil_of_le (by omega)]
    · rw [show m = 64 - h.n % 64 by omega]
  have htn : tkOne k h bs' = ⟨if h.n % 64 + m = 64 then mixF h.st k (putB h.buf (h.n % 64) (bs'.take (64 - h.n % 64))) else h.st, putB h.buf (h.n % 64) (bs'.take (64 - h.n % 64)), h.n + m⟩ := by unfold tkOne; rw [hmm]
  generalize hB : putB h.buf (h.n % 64) (bs'.take (64 - h.n % 64)) = B at *
  have okB : HsOk h.st k B := ⟨x.st, x.k, hbl⟩
  have hgB := hsL_n (n := h.n) okB
  have hlB := hsL_len (n := h.n) okB
  have hsB := hsL_setN (n := h.n) (n' := h.n + m) okB
  have rdB : ∀ X, RdS 1 (some ⟨b, 0, none⟩) 138 (hsL h.st k B h.n) (pts b (.cells (hsL h.st k B h.n).toArray 121) :: X) := fun X => RdS.all (sz := 1) (n := 138) (by rw [hlB])
  rw [hdm] at hdl hnx
  rw [hnx, htn]
  rw [htn] at x'
  refine goC ?_
  refine go ?_
  refine WO.sv rfl ?_
  refine SV.cut (l := m) (h := bs'.length) rfl (cutAt.of rfl (by omega)) rfl (by omega) (by omega) ?_
  intro off'' hof
  have r2 : ∀ X, RdS 1 (some ⟨sb, off'', none⟩) (bs'.length - m) ((bs'.drop m).map u8V) (X :: L) := by
    intro X
    by_cases hq : bs'.length - m = 0
    · rw [hq, List.drop_eq_nil_of_le (by omega)]; exact RdS.zero
    · rw [hof (.inl (by omega)), Nat.mul_one, List.map_drop]
      exact RdS.drop1 (r X) hm1
  refine go ?_
  refine WO.sv rfl ?_
  refine SV.loadR 137 rfl (rdB _) rfl hgB ?_
  have hwr : IntKind.wrap .u64 ((h.n : Int) + IntKind.wrap .u64 (m : Int)) = ((h.n + m : Nat) : Int) := by
    simp [IntKind.wrap, IntKind.bits, IntKind.signed]; omega
  refine go ?_
  refine WO.sv rfl ?_
  refine SV.storeS (v := .int .u64 ((h.n + m : Nat) : Int)) rfl (by first | exact congrArg (Value.int .u64) hwr | rfl) rfl (.inl (Nat.le_refl _)) (by rw [hlB]; decide) ?_
  rw [show 0 + 137 = 137 from rfl, hsB]
  have inv : HOk k ⟨if h.n % 64 + m = 64 then mixF h.st k B else h.st, B, h.n + m⟩ ∧ (h.n + m) + (bs'.drop m).length < 4611686018427387904 ∧ (bs'.drop m).length ≤ c' - m ∧ (∀ X, RdS 1 (some ⟨sb, off'', none⟩) (bs'.drop m).length ((bs'.drop m).map u8V) (X :: L)) := by
    rw [hdl]
    exact ⟨x', by omega, by omega, r2⟩
  by_cases hc64 : h.n % 64 + m = 64
  · rw [if_pos hc64] at inv ⊢
    refine go ?_
    refine WO.callE (vs := [.pointer (some ⟨b, 0, none⟩)]) Try.func67 rfl rfl rfl rfl (sh_mix b h.st k B (h.n + m) L okB) ?_
    rintro v M ⟨rfl, rfl⟩
    refine go ?_
    exact ⟨⟨⟨mixF h.st k B, B, h.n + m⟩, bs'.drop m, off'', c' - m⟩, ⟨by dsimp only; rw [hdl]; rfl, trivial⟩, rfl, ⟨inv.1, inv.2.1, inv.2.2.1, inv.2.2.2, rfl⟩, by dsimp only; omega, Ent.app ent⟩
  · rw [if_neg hc64] at inv ⊢
    refine go ?_
    exact ⟨⟨⟨h.st, B, h.n + m⟩, bs'.drop m, off'', c' - m⟩, ⟨by dsimp only; rw [hdl]; rfl, trivial⟩, rfl, ⟨inv.1, inv.2.1, inv.2.2.1, inv.2.2.2, rfl⟩, by dsimp only; omega, Ent.app ent⟩
end Go.SL

/- Layer 2 (sha): the constants, a new hash, another one that is the same; walked. -/
namespace Go.SL
open Go.Proofs
set_option linter.unusedVariables false
set_option linter.unusedSimpArgs false
set_option linter.unusedSectionVars false
set_option maxRecDepth 10000
set_option maxHeartbeats 4000000
attribute [local irreducible] W WO SV OW SW Tri Ent Tk Has Src SrcK DA DB DP RdS Own OwnT MapH

instance : TZ Try.prog 121 (.bool false :: (List.replicate 72 (.int .u32 0) ++ (List.replicate 64 (.int .u8 0) ++ [.int .u64 0]))) := ⟨by kernel_rfl⟩
instance : TP Try.prog 121 [(0, 1), (1, 8), (9, 64), (73, 64), (137, 1)] := ⟨by kernel_rfl⟩
def h0N : List Nat := [1779033703, 3144134277, 1013904242, 2773480762, 1359893119, 2600822924, 528734635, 1541459225]
def kN : List Nat := [1116352408, 1899447441, 3049323471, 3921009573, 961987163, 1508970993, 2453635748, 2870763221, 3624381080, 310598401, 607225278, 1426881987, 1925078388, 2162078206, 2614888103, 3248222580, 3835390401, 4022224774, 264347078, 604807628, 770255983, 1249150122, 1555081692, 1996064986, 2554220882, 2821834349, 2952996808, 3210313671, 3336571891, 3584528711, 113926993, 338241895, 666307205, 773529912, 1294757372, 1396182291, 1695183700, 1986661051, 2177026350, 2456956037, 2730485921, 2820302411, 3259730800, 3345764771, 3516065817, 3600352804, 4094571909, 275423344, 430227734, 506948616, 659060556, 883997877, 958139571, 1322822218, 1537002063, 1747873779, 1955562222, 2024104815, 2227730452, 2361852424, 2428436474, 2756734187, 3204031479, 3329325298]
def h0R : List UInt32 := h0N.map UInt32.ofNat
def kR : List UInt32 := kN.map UInt32.ofNat
theorem h0R_v : h0R.map w32 = [.int .u32 1779033703, .int .u32 3144134277, .int .u32 1013904242, .int .u32 2773480762, .int .u32 1359893119, .int .u32 2600822924, .int .u32 528734635, .int .u32 1541459225] := by kernel_rfl
theorem kR_v : kR.map w32 = [.int .u32 1116352408, .int .u32 1899447441, .int .u32 3049323471, .int .u32 3921009573, .int .u32 961987163, .int .u32 1508970993, .int .u32 2453635748, .int .u32 2870763221, .int .u32 3624381080, .int .u32 310598401, .int .u32 607225278, .int .u32 1426881987, .int .u32 1925078388, .int .u32 2162078206, .int .u32 2614888103, .int .u32 3248222580, .int .u32 3835390401, .int .u32 4022224774, .int .u32 264347078, .int .u32 604807628, .int .u32 770255983, .int .u32 1249150122, .int .u32 1555081692, .int .u32 1996064986, .int .u32 2554220882, .int .u32 2821834349, .int .u32 2952996808, .int .u32 3210313671, .int .u32 3336571891, .int .u32 3584528711, .int .u32 113926993, .int .u32 338241895, .int .u32 666307205, .int .u32 773529912, .int .u32 1294757372, .int .u32 1396182291, .int .u32 1695183700, .int .u32 1986661051, .int .u32 2177026350, .int .u32 2456956037, .int .u32 2730485921, .int .u32 2820302411, .int .u32 3259730800, .int .u32 3345764771, .int .u32 3516065817, .int .u32 3600352804, .int .u32 4094571909, .int .u32 275423344, .int .u32 430227734, .int .u32 506948616, .int .u32 659060556, .int .u32 883997877, .int .u32 958139571, .int .u32 1322822218, .int .u32 1537002063, .int .u32 1747873779, .int .u32 1955562222, .int .u32 2024104815, .int .u32 2227730452, .int .u32 2361852424, .int .u32 2428436474, .int .u32 2756734187, .int .u32 3204031479, .int .u32 3329325298] := by kernel_rfl
theorem sh_First (L : List HP) : TriE Try.prog 64 #[] (fun v M => v = .agg (h0R.map w32).toArray ∧ M = L) L := by
  refine Tri.of (N := 2) (args := []) Try.func64 rfl rfl rfl ?_
  rw [h0R_v]
  refine go ?_
  intro b
  refine go ?_
  refine WO.sv rfl ?_
  refine SV.buildArr (Parts.cons (v := .int .u32 1779033703) rfl cel (Parts.cons (v := .int .u32 3144134277) rfl cel (Parts.cons (v := .int .u32 1013904242) rfl cel (Parts.cons (v := .int .u32 2773480762) rfl cel (Parts.cons (v := .int .u32 1359893119) rfl cel (Parts.cons (v := .int .u32 2600822924) rfl cel (Parts.cons (v := .int .u32 528734635) rfl cel (Parts.cons (v := .int .u32 1541459225) rfl cel (Parts.nil))))))))) rfl nl ?_
  refine go ?_
  exact ⟨rfl, [_], ⟨Res.cell rfl le0 nl, trivial⟩, L, ent, rfl, rfl⟩
theorem sh_Rounds (L : List HP) : TriE Try.prog 65 #[] (fun v M => v = .agg (kR.map w32).toArray ∧ M = L) L := by
  refine Tri.of (N := 2) (args := []) Try.func65 rfl rfl rfl ?_
  rw [kR_v]
  refine go ?_
  intro b
  refine go ?_
  refine WO.sv rfl ?_
  refine SV.buildArr (Parts.cons (v := .int .u32 1116352408) rfl cel (Parts.cons (v := .int .u32 1899447441) rfl cel (Parts.cons (v := .int .u32 3049323471) rfl cel (Parts.cons (v := .int .u32 3921009573) rfl cel (Parts.cons (v := .int .u32 961987163) rfl cel (Parts.cons (v := .int .u32 1508970993) rfl cel (Parts.cons (v := .int .u32 2453635748) rfl cel (Parts.cons (v := .int .u32 2870763221) rfl cel (Parts.cons (v := .int .u32 3624381080) rfl cel (Parts.cons (v := .int .u32 310598401) rfl cel (Parts.cons (v := .int .u32 607225278) rfl cel (Parts.cons (v := .int .u32 1426881987) rfl cel (Parts.cons (v := .int .u32 1925078388) rfl cel (Parts.cons (v := .int .u32 2162078206) rfl cel (Parts.cons (v := .int .u32 2614888103) rfl cel (Parts.cons (v := .int .u32 3248222580) rfl cel (Parts.cons (v := .int .u32 3835390401) rfl cel (Parts.cons (v := .int .u32 4022224774) rfl cel (Parts.cons (v := .int .u32 264347078) rfl cel (Parts.cons (v := .int .u32 604807628) rfl cel (Parts.cons (v := .int .u32 770255983) rfl cel (Parts.cons (v := .int .u32 1249150122) rfl cel (Parts.cons (v := .int .u32 1555081692) rfl cel (Parts.cons (v := .int .u32 1996064986) rfl cel (Parts.cons (v := .int .u32 2554220882) rfl cel (Parts.cons (v := .int .u32 2821834349) rfl cel (Parts.cons (v := .int .u32 2952996808) rfl cel (Parts.cons (v := .int .u32 3210313671) rfl cel (Parts.cons (v := .int .u32 3336571891) rfl cel (Parts.cons (v := .int .u32 3584528711) rfl cel (Parts.cons (v := .int .u32 113926993) rfl cel (Parts.cons (v := .int .u32 338241895) rfl cel (Parts.cons (v := .int .u32 666307205) rfl cel (Parts.cons (v := .int .u32 773529912) rfl cel (Parts.cons (v := .int .u32 1294757372) rfl cel (Parts.cons (v := .int .u32 1396182291) rfl cel (Parts.cons (v := .int .u32 1695183700) rfl cel (Parts.cons (v := .int .u32 1986661051) rfl cel (Parts.cons (v := .int .u32 2177026350) rfl cel (Parts.cons (v := .int .u32 2456956037) rfl cel (Parts.cons (v := .int .u32 2730485921) rfl cel (Parts.cons (v := .int .u32 2820302411) rfl cel (Parts.cons (v := .int .u32 3259730800) rfl cel (Parts.cons (v := .int .u32 3345764771) rfl cel (Parts.cons (v := .int .u32 3516065817) rfl cel (Parts.cons (v := .int .u32 3600352804) rfl cel (Parts.cons (v := .int .u32 4094571909) rfl cel (Parts.cons (v := .int .u32 275423344) rfl cel (Parts.cons (v := .int .u32 430227734) rfl cel (Parts.cons (v := .int .u32 506948616) rfl cel (Parts.cons (v := .int .u32 659060556) rfl cel (Parts.cons (v := .int .u32 883997877) rfl cel (Parts.cons (v := .int .u32 958139571) rfl cel (Parts.cons (v := .int .u32 1322822218) rfl cel (Parts.cons (v := .int .u32 1537002063) rfl cel (Parts.cons (v := .int .u32 1747873779) rfl cel (Parts.cons (v := .int .u32 1955562222) rfl cel (Parts.cons (v := .int .u32 2024104815) rfl cel (Parts.cons (v := .int .u32 2227730452) rfl cel (Parts.cons (v := .int .u32 2361852424) rfl cel (Parts.cons (v := .int .u32 2428436474) rfl cel (Parts.cons (v := .int .u32 2756734187) rfl cel (Parts.cons (v := .int .u32 3204031479) rfl cel (Parts.cons (v := .int .u32 3329325298) rfl cel (Parts.nil))))))))))))))))))))))))))))))))))))))))))))))))))))))))))))))))) rfl nl ?_
  refine go ?_
  exact ⟨rfl, [_], ⟨Res.cell rfl le0 nl, trivial⟩, L, ent, rfl, rfl⟩
/-- A new hash. -/
def newH : HS := ⟨h0R, List.replicate 64 0, 0⟩
theorem newH_ok : HOk kR newH := ⟨rfl, rfl, rfl⟩
theorem sh_New (L : List HP) : TriE Try.prog 47 #[] (fun v M => ∃ b, v = .pointer (some ⟨b, 0, none⟩) ∧ M = pts b (.cells (hsL newH.st kR newH.buf newH.n).toArray 121) :: L) L := by
  refine Tri.of (N := 5) (args := []) Try.func47 rfl rfl rfl ?_
  refine go ?_
  refine WO.callE (vs := []) Try.func64 rfl rfl rfl rfl (sh_First _) ?_
  rintro v M ⟨rfl, rfl⟩
  refine go ?_
  refine WO.callE (vs := []) Try.func65 rfl rfl rfl rfl (sh_Rounds _) ?_
  rintro v M ⟨rfl, rfl⟩
  refine WO.sv rfl ?_
  refine SV.build (cs := hsL newH.st kR newH.buf newH.n) (cs' := hsL newH.st kR newH.buf newH.n) (Parts.cons (v := .bool true) rfl cel (Parts.cons (v := .agg (h0R.map w32).toArray) rfl Cel.agg (Parts.cons (v := .agg (kR.map w32).toArray) rfl Cel.agg Parts.nil))) (by kernel_rfl) rfl ?_
  refine WO.sv rfl ?_
  refine SV.box (v := .agg (hsL newH.st kR newH.buf newH.n).toArray) rfl Cel.agg ?_
  intro b
  refine go ?_
  exact ⟨rfl, [_], ⟨Res.tmp rfl, trivial⟩, _, ent, b, rfl, rfl⟩
attribute [local irreducible] hsL
theorem hsL_cell {st k : List UInt32} {buf : BL} {n : Nat} : (hsL st k buf n).all isCell = true := by
  unfold hsL
  rw [List.all_cons, List.all_append, List.all_append, List.all_append, w32_cell, w32_cell]
  have : (buf.map u8V).all isCell = true := by simp [u8V, isCell]
  rw [this]; rfl
theorem hsL_ne {st k : List UInt32} {buf : BL} {n : Nat} : (hsL st k buf n).isEmpty = false := by unfold hsL; rfl
theorem sh_Clone (b : Nat) (h : HS) (k : List UInt32) (x : HOk k h) (L : List HP) [r : Rd L b (.cells (hsL h.st k h.buf h.n).toArray 121 (0, 0))] :
    TriE Try.prog 68 #[.pointer (some ⟨b, 0, none⟩)] (fun v M => ∃ b', v = .pointer (some ⟨b', 0, none⟩) ∧ M = pts b' (.cells (hsL h.st k h.buf h.n).toArray 121) :: L) L := by
  have hml := hsL_len (n := h.n) x.ok
  refine Tri.of (N := 9) (args := [.pointer (some ⟨b, 0, none⟩)]) Try.func68 rfl rfl rfl ?_
  refine go ?_
  refine WO.callE (vs := [.pointer (some ⟨b, 0, none⟩)]) Try.func66 rfl rfl rfl rfl (sh_none b h k _) ?_
  rintro v M ⟨rfl, rfl⟩
  refine goC ?_
  refine go ?_
  refine WO.sv rfl ?_
  refine SV.loadN (vs := hsL h.st k h.buf h.n) rfl (sub_full hml) (by rw [hml]; decide) ?_
  refine goC ?_
  refine WO.sv rfl ?_
  refine SV.alloc ?_
  intro b'
  refine goC ?_
  refine WO.sv rfl ?_
  refine SV.store (vs := hsL h.st k h.buf h.n) (l' := hsL h.st k h.buf h.n) rfl rfl Cel.agg (by rw [hml]; rfl) hsL_ne hsL_cell (.inl (Nat.le_refl _)) (by decide) (lput_full (by rw [hml]; rfl)) ?_
  refine go ?_
  exact ⟨rfl, [_], ⟨Res.tmp rfl, trivial⟩, _, ent, b', rfl, rfl⟩
end Go.SL

/- Layer 2 (sha): the sum of bytes, walked. -/
namespace Go.SL
open Go.Proofs
set_option linter.unusedVariables false
set_option linter.unusedSimpArgs false
set_option linter.unusedSectionVars false
set_option maxRecDepth 10000
set_option maxHeartbeats 4000000

def bt64 (v i : Nat) : UInt8 := UInt8.ofNat (v / 2 ^ (8 * (7 - i)))
def bs64 (v i : Nat) : BL := (List.range i).map (bt64 v)
theorem bs64_succ (v i : Nat) : bs64 v (i + 1) = bs64 v i ++ [bt64 v i] := by unfold bs64; rw [List.range_succ, List.map_append]; rfl
@[simp] theorem bs64_len (v i : Nat) : (bs64 v i).length = i := by simp [bs64]
theorem sh64 (v i : Nat) (z : Int) (h : z = 8 * (7 - (i : Int))) (hi : i < 8) : (v : Int).fdiv (2 ^ (min z.toNat (IntKind.bits .u64))) = ((v / 2 ^ (8 * (7 - i)) : Nat) : Int) := by
  have e : min z.toNat (IntKind.bits .u64) = 8 * (7 - i) := by subst h; show min _ 64 = _; omega
  rw [e, Int.fdiv_eq_ediv_of_nonneg _ (by exact_mod_cast Nat.zero_le _)]
  exact_mod_cast rfl
theorem sh32 (v q : Nat) (z : Int) (h : z = 8 * (3 - ((q % 4 : Nat) : Int))) : (v : Int).fdiv (2 ^ (min z.toNat (IntKind.bits .u32))) = ((v / 2 ^ (8 * (3 - q % 4)) : Nat) : Int) := by
  have e : min z.toNat (IntKind.bits .u32) = 8 * (3 - q % 4) := by subst h; show min _ 32 = _; omega
  rw [e, Int.fdiv_eq_ediv_of_nonneg _ (by exact_mod_cast Nat.zero_le _)]
  exact_mod_cast rfl
theorem w8_of (n : Nat) : IntKind.wrap .u8 (n : Int) = ((UInt8.ofNat n).toNat : Int) := by
  show ((n : Int) % 256) = _
  rw [UInt8.toNat_ofNat']
  exact_mod_cast rfl
/-- How many bytes 0 stand behind the one bit. -/
def padZ (n : Nat) : Nat := (119 - n % 64) % 64
def tailF (n : Nat) : BL := ((128 : UInt8) :: List.replicate (padZ n) 0) ++ bs64 (n * 8) 8
/-- The i-th byte of a sum. -/
def outB (st : List UInt32) (i : Nat) : UInt8 := UInt8.ofNat ((st.getD (i / 4) 0).toNat / 2 ^ (8 * (3 - i % 4)))
def outBs (st : List UInt32) (i : Nat) : BL := (List.range i).map (outB st)
theorem outBs_succ (st : List UInt32) (i : Nat) : outBs st (i + 1) = outBs st i ++ [outB st i] := by unfold outBs; rw [List.range_succ, List.map_append]; rfl
@[simp] theorem outBs_len (st : List UInt32) (i : Nat) : (outBs st i).length = i := by simp [outBs]
/-- Bytes of a sum that are known, ahead of bytes 0. -/
def wo (w : BL) : List Value := w.map u8V ++ List.replicate (32 - w.length) (u8V 0)
theorem wo_len {w : BL} (h : w.length ≤ 32) : (wo w).length = 32 := by simp [wo]; omega
theorem wo_set (v : UInt8) {w : BL} (h : w.length < 32) : (wo w).set w.length (u8V v) = wo (w ++ [v]) := by
  unfold wo
  rw [List.set_append_right _ _ (by simp), List.length_map, Nat.sub_self, show 32 - w.length = (32 - (w ++ [v]).length) + 1 by simp; omega, List.replicate_succ, List.set_cons_zero, List.map_append, List.append_assoc]
  rfl
theorem wo_full {w : BL} (h : w.length = 32) : wo w = w.map u8V := by simp [wo, h]
def sumF (k : List UInt32) (h : HS) : BL := outBs (takeF k h (tailF h.n)).st 32
theorem sumF_len (k : List UInt32) (h : HS) : (sumF k h).length = 32 := outBs_len _ _
def shaF (bs : BL) : BL := sumF kR (takeF kR newH bs)
theorem shaF_len (bs : BL) : (shaF bs).length = 32 := sumF_len _ _
theorem wo_ne {w : BL} (h : w.length = 32) : (w.map u8V).isEmpty = false := by
  cases w with
  | nil => cases h
  | cons _ _ => rfl
theorem u8_cell (w : BL) : (w.map u8V).all isCell = true := by simp [u8V, isCell]
attribute [local irreducible] W WO SV OW SW Tri Ent Tk Has Src SrcK DA DB DP RdS Own OwnT MapH
attribute [local irreducible] hsL

def OB (a : Option Addr) (c : Nat) (s : BL) : HP := Own 5 1 (.slice a s.length c) s.length (s.map u8V)
theorem takeN_n (k : List UInt32) : ∀ (f : Nat) (h : HS) (bs : BL), bs.length ≤ f → (takeN k f h bs).n = h.n + bs.length
  | 0, h, bs, e => by
    have : bs.length = 0 := by omega
    rw [this]; rfl
  | f + 1, h, bs, e => by
    unfold takeN
    split
    · omega
    · have := Nat.mod_lt h.n (show 0 < 64 by decide)
      rw [takeN_n k f _ _ (by simp; omega)]
      simp [tkOne]; omega
theorem takeF_n (k : List UInt32) (h : HS) (bs : BL) : (takeF k h bs).n = h.n + bs.length := takeN_n k _ h bs (Nat.le_refl _)
theorem sh_Sum (b : Nat) (h : HS) (k : List UInt32) (x : HOk k h) (hn : h.n < 1152921504606846976) (L : List HP) :
    TriE Try.prog 49 #[.pointer (some ⟨b, 0, none⟩)] (fun v M => v = .agg ((sumF k h).map u8V).toArray ∧ M = pts b (.cells (hsL h.st k h.buf h.n).toArray 121) :: L) (pts b (.cells (hsL h.st k h.buf h.n).toArray 121) :: L) := by
  have hml := hsL_len (n := h.n) x.ok
  have hgn := hsL_n (n := h.n) x.ok
  have rdh : ∀ X, RdS 1 (some ⟨b, 0, none⟩) 138 (hsL h.st k h.buf h.n) (pts b (.cells (hsL h.st k h.buf h.n).toArray 121) :: X) := fun X => RdS.all (sz := 1) (n := 138) (by rw [hml])
  refine Tri.of (N := 67) (args := [.pointer (some ⟨b, 0, none⟩)]) Try.func49 rfl rfl rfl ?_
  refine go ?_
  intro b2
  refine go ?_
  refine WO.callE (vs := [.pointer (some ⟨b, 0, none⟩)]) Try.func66 rfl rfl rfl rfl (sh_none b h k _) ?_
  rintro v M ⟨rfl, rfl⟩
  refine goC ?_
  refine go ?_
  refine WO.callE (vs := [.pointer (some ⟨b, 0, none⟩)]) Try.func68 rfl rfl rfl rfl (sh_Clone b h k x _) ?_
  rintro v M ⟨bc, rfl, rfl⟩
  refine go ?_
  refine WO.sv rfl ?_
  refine SV.lit rfl rfl rfl parts rfl nl ?_
  intro bt
  refine go ?_
  have hm : h.n % 64 < 64 := Nat.mod_lt _ (by decide)
  have hz : padZ h.n < 64 := Nat.mod_lt _ (by decide)
  have hmod : ∀ i, i ≤ padZ h.n → ((h.n + (1 + i)) % 64 = 56 ↔ i = padZ h.n) := by
    intro i hi
    unfold padZ at *
    omega
  have tl : ∀ i : Nat, ((128 : UInt8) :: List.replicate i 0).length = 1 + i := by intro i; simp; omega
  have inv0 : Ent (pts bt (.cells [Value.int .u8 128].toArray 5) :: pts bc (.cells (hsL h.st k h.buf h.n).toArray 121) :: pts b2 (.cells (wo []).toArray 58) :: pts b (.cells (hsL h.st k h.buf h.n).toArray 121) :: L) (OB (some ⟨bt, 0, none⟩) 1 (128 :: List.replicate 0 0) :: pts b (.cells (hsL h.st k h.buf h.n).toArray 121) :: pts bc (.cells (hsL h.st k h.buf h.n).toArray 121) :: pts b2 (.cells (wo []).toArray 58) :: L) := by
    unfold OB
    exact (ent_own (E := 5) (sz := 1) (n := 1) rfl).trans ent
  refine W.loopS 134201360 rfl (fun q : Nat × Option Addr × Nat => [(4, .slice q.2.1 (1 + q.1) q.2.2)])
    (fun q => OB q.2.1 q.2.2 (128 :: List.replicate q.1 0) :: pts b (.cells (hsL h.st k h.buf h.n).toArray 121) :: pts bc (.cells (hsL h.st k h.buf h.n).toArray 121) :: pts b2 (.cells (wo []).toArray 58) :: L)
    (fun q => q.1 ≤ padZ h.n ∧ SomeA q.2.1 (1 + q.1)) (fun q => padZ h.n - q.1) (0, some ⟨bt, 0, none⟩, 1) ⟨rfl, trivial⟩ ⟨Nat.zero_le _, fun _ => ⟨bt, rfl⟩⟩ (Ent.app inv0) ?_
  rintro ⟨i, a, c⟩ bg ⟨hi, ha⟩
  dsimp only at hi ha ⊢
  have hwr : IntKind.wrap .u64 ((h.n : Int) + IntKind.wrap .u64 ((1 + i : Nat) : Int)) = ((h.n + (1 + i) : Nat) : Int) := by
    simp [IntKind.wrap, IntKind.bits, IntKind.signed]; omega
  refine go ?_
  refine WO.sv rfl ?_
  refine SV.loadR 137 rfl (rdh _).cons rfl hgn ?_
  refine go ?_
  have hwr2 : (((h.n + (1 + i) : Nat) : Int) % 64) = (((h.n + (1 + i)) % 64 : Nat) : Int) := by omega
  by_cases he : i = padZ h.n
  · have h56 := (hmod i hi).2 he
    refine WO.sv rfl ?_
    refine SV.neqF rfl rfl (by omega) ?_
    subst he
    generalize hZ : padZ h.n = Z at *
    refine go ?_
    refine WO.sv rfl ?_
    refine SV.loadR 137 rfl (rdh _).cons rfl hgn ?_
    refine go ?_
    have hmul : IntKind.wrap .u64 ((h.n : Int) * 8) = ((h.n * 8 : Nat) : Int) := by
      simp [IntKind.wrap, IntKind.bits, IntKind.signed]; omega
    refine W.loopS 17587891077200 rfl (fun q : Nat × Option Addr × Nat => [(4, .slice q.2.1 (1 + Z + q.1) q.2.2), (6, .int .i64 (7 - (q.1 : Int)))])
      (fun q => OB q.2.1 q.2.2 ((128 :: List.replicate Z 0) ++ bs64 (h.n * 8) q.1) :: pts b (.cells (hsL h.st k h.buf h.n).toArray 121) :: pts bc (.cells (hsL h.st k h.buf h.n).toArray 121) :: pts b2 (.cells (wo []).toArray 58) :: L)
      (fun q => q.1 ≤ 8 ∧ SomeA q.2.1 (1 + Z + q.1)) (fun q => 8 - q.1) (0, a, c) ⟨rfl, rfl, trivial⟩ ⟨Nat.zero_le _, ha⟩ (Ent.app (by dsimp only; rw [show bs64 (h.n * 8) 0 = [] from rfl, List.append_nil]; exact ent)) ?_
    clear ha
    rintro ⟨j, a, c⟩ bg ⟨hj, ha⟩
    dsimp only at hj ha ⊢
    by_cases h8 : j < 8
    · refine go ?_
      refine WO.sv rfl ?_
      refine SV.shr rfl rfl (by omega) (sh64 (h.n * 8) j _ (by omega) h8) ?_
      refine WO.sv rfl ?_
      refine SV.convInt rfl (w8_of _) ?_
      refine WO.sv rfl ?_
      refine SV.lit rfl rfl rfl parts rfl nl ?_
      intro bl
      refine WO.sv rfl ?_
      rw [show OB a c ((128 :: List.replicate Z 0) ++ bs64 (h.n * 8) j) = Own 5 1 (.slice a (1 + Z + j) c) (1 + Z + j) (((128 :: List.replicate Z 0) ++ bs64 (h.n * 8) j).map u8V) by unfold OB; rw [List.length_append, tl, bs64_len]]
      refine SV.append rfl rfl rfl (Tk.there Tk.here) (RdS.src (RdS.all (sz := 1) (n := 1) rfl)) rfl rfl (by omega) rfl ?_
      intro a' c' ha'
      refine go ?_
      refine ⟨(j + 1, a', c'), ⟨rfl, by show Value.int _ _ = _; congr 1; dsimp only; omega, trivial⟩, rfl, ⟨by dsimp only; omega, fun _ => ha' (by omega)⟩, by dsimp only; omega, Ent.app ?_⟩
      dsimp only
      rw [show OB a' c' ((128 :: List.replicate Z 0) ++ bs64 (h.n * 8) (j + 1)) = Own 5 1 (.slice a' (1 + Z + j + 1) c') (1 + Z + j + 1) (((128 :: List.replicate Z 0) ++ bs64 (h.n * 8) j).map u8V ++ [u8V (bt64 (h.n * 8) j)]) by unfold OB; rw [List.length_append, tl, bs64_len, bs64_succ, ← List.append_assoc, List.map_append (l₂ := [_])]; rfl]
      exact ent
    · obtain rfl : j = 8 := by omega
      obtain ⟨ba, rfl⟩ := ha (by omega)
      have htl : (128 :: List.replicate Z 0) ++ bs64 (h.n * 8) 8 = tailF h.n := by unfold tailF; rw [hZ]
      rw [htl]
      have htn : (tailF h.n).length = 1 + Z + 8 := by rw [← htl, List.length_append, tl, bs64_len]
      refine go ?_
      refine WO.ent (M := pts bc (.cells (hsL h.st k h.buf h.n).toArray 121) :: OB (some ⟨ba, 0, none⟩) c (tailF h.n) :: pts b (.cells (hsL h.st k h.buf h.n).toArray 121) :: pts b2 (.cells (wo []).toArray 58) :: L) ent ?_
      refine WO.ownCap (E := 5) (sz := 1) (n := (tailF h.n).length) (xs := (tailF h.n).map u8V) (show Tk _ (OB (some ⟨ba, 0, none⟩) c (tailF h.n)) _ from tk) fun hcap => ?_
      have rdt : ∀ X, RdS 1 (some ⟨ba, 0, none⟩) (tailF h.n).length ((tailF h.n).map u8V) (X :: OB (some ⟨ba, 0, none⟩) c (tailF h.n) :: pts b (.cells (hsL h.st k h.buf h.n).toArray 121) :: pts b2 (.cells (wo []).toArray 58) :: L) := fun X => RdS.cons (by unfold OB; exact RdS.ownS Tk.here (fun _ => ⟨ba, rfl⟩) (by simp))
      refine WO.callE (vs := [.pointer (some ⟨bc, 0, none⟩), .slice (some ⟨ba, 0, none⟩) (tailF h.n).length c]) Try.func48 rfl rfl (by rw [htn]; rfl) rfl (sh_Take bc h k ba 0 c (tailF h.n) _ x (by omega) hcap rdt) ?_
      rintro v M ⟨rfl, rfl⟩
      have xt : HOk k (takeF k h (tailF h.n)) := takeF_ok _ x _
      have hsum : sumF k h = outBs (takeF k h (tailF h.n)).st 32 := rfl
      generalize takeF k h (tailF h.n) = ht at *
      have hst := fun i (hi : i < 8) => hsL_st (n := ht.n) xt.ok hi
      have htl' := hsL_len (n := ht.n) xt.ok
      refine go ?_
      refine W.loopS 73786835557349851264 rfl (fun q : Nat => [(47, .int .i64 (q : Int))])
        (fun q => pts b2 (.cells (wo (outBs ht.st q)).toArray 58) :: pts bc (.cells (hsL ht.st k ht.buf ht.n).toArray 121) :: OB (some ⟨ba, 0, none⟩) c (tailF h.n) :: pts b (.cells (hsL h.st k h.buf h.n).toArray 121) :: L)
        (fun q => q ≤ 32) (fun q => 32 - q) 0 ⟨rfl, trivial⟩ (Nat.zero_le _) (Ent.app ent) ?_
      intro q bg hq
      try dsimp only at hq ⊢
      have hol := outBs_len ht.st q
      have hwl := wo_len (w := outBs ht.st q) (by omega)
      by_cases h32 : q < 32
      · have hset := wo_set (outB ht.st q) (w := outBs ht.st q) (by omega)
        rw [hol, ← outBs_succ] at hset
        have gs := hst (q / 4) (by omega)
        have rdc : ∀ X, RdS 1 (some ⟨bc, 0, none⟩) 138 (hsL ht.st k ht.buf ht.n) (pts bc (.cells (hsL ht.st k ht.buf ht.n).toArray 121) :: X) := fun X => RdS.all (sz := 1) (n := 138) (by rw [htl'])
        have hob : outB ht.st q = UInt8.ofNat ((ht.st.getD (q / 4) 0).toNat / 2 ^ (8 * (3 - q % 4))) := rfl
        generalize outB ht.st q = ob at *
        generalize ht.st.getD (q / 4) 0 = s at *
        refine go ?_
        refine WO.sv rfl ?_
        refine SV.loadR (1 + q / 4) rfl (rdc _).cons (by omega) gs ?_
        refine go ?_
        refine WO.sv rfl ?_
        refine SV.shr (a := (s.toNat : Int)) rfl rfl (by omega) (sh32 s.toNat q _ (by omega)) ?_
        refine WO.sv rfl ?_
        refine SV.convInt rfl (w8_of _) ?_
        rw [← hob]
        refine go ?_
        refine WO.sv rfl ?_
        refine SV.storeS (v := u8V ob) rfl rfl rfl (.inl (Nat.le_refl _)) (by rw [hwl]; omega) ?_
        rw [show 0 + (q : Int).toNat * 1 = q by omega, hset]
        refine go ?_
        exact ⟨q + 1, ⟨rfl, trivial⟩, rfl, h32, by omega, Ent.app ent⟩
      · obtain rfl : q = 32 := by omega
        refine go ?_
        rw [wo_full hol] at *
        exact ⟨rfl, [_], ⟨Res.cell rfl (by rw [hwl]; decide) (sub_full hwl), trivial⟩, _, ent, by rw [hsum]; rfl, rfl⟩
  · have h57 := mt (hmod i hi).1 he
    refine WO.sv rfl ?_
    refine SV.neqT rfl rfl (by omega) ?_
    refine go ?_
    refine WO.sv rfl ?_
    refine SV.lit rfl rfl rfl parts rfl nl ?_
    intro bl
    refine WO.sv rfl ?_
    rw [show OB a c (128 :: List.replicate i 0) = Own 5 1 (.slice a (1 + i) c) (1 + i) ((128 :: List.replicate i 0 : BL).map u8V) by unfold OB; rw [tl]]
    refine SV.append rfl rfl rfl (Tk.there Tk.here) (RdS.src (RdS.all (sz := 1) (n := 1) rfl)) rfl rfl (by omega) rfl ?_
    intro a' c' ha'
    refine go ?_
    refine ⟨(i + 1, a', c'), ⟨rfl, trivial⟩, rfl, ⟨by dsimp only; omega, fun _ => ha' (by omega)⟩, by dsimp only; omega, Ent.app ?_⟩
    dsimp only
    rw [show OB a' c' (128 :: List.replicate (i + 1) 0) = Own 5 1 (.slice a' (1 + i + 1) c') (1 + i + 1) ((128 :: List.replicate i 0 : BL).map u8V ++ [u8V 0]) by unfold OB; rw [tl, List.replicate_succ', ← List.cons_append, List.map_append]; rfl]
    exact ent
theorem sh_Of (sb o c : Nat) (bs : BL) (L : List HP) (hn : bs.length < 1000000) (hc : bs.length ≤ c) (r : RdS 1 (some ⟨sb, o, none⟩) bs.length (bs.map u8V) L) :
    TriE Try.prog 28 #[.slice (some ⟨sb, o, none⟩) bs.length c] (fun v M => v = .agg ((shaF bs).map u8V).toArray ∧ M = L) L := by
  refine Tri.of (N := 10) (args := [.slice (some ⟨sb, o, none⟩) bs.length c]) Try.func28 rfl rfl rfl ?_
  refine go ?_
  intro b2
  refine go ?_
  refine WO.callE (vs := []) Try.func47 rfl rfl rfl rfl (sh_New _) ?_
  rintro v M ⟨b, rfl, rfl⟩
  have x0 := newH_ok
  have hf : shaF bs = sumF kR (takeF kR newH bs) := rfl
  have h0 : newH.n = 0 := rfl
  generalize newH = h at *
  refine go ?_
  refine WO.callE (vs := [.pointer (some ⟨b, 0, none⟩), .slice (some ⟨sb, o, none⟩) bs.length c]) Try.func48 rfl rfl rfl rfl (sh_Take b h kR sb o c bs _ x0 (by omega) hc fun X => r.cons.cons) ?_
  rintro v M ⟨rfl, rfl⟩
  have x1 : HOk kR (takeF kR h bs) := takeF_ok _ x0 _
  have hn1 : (takeF kR h bs).n = h.n + bs.length := takeF_n kR h bs
  generalize takeF kR h bs = h1 at *
  refine go ?_
  refine WO.callE (vs := [.pointer (some ⟨b, 0, none⟩)]) Try.func49 rfl rfl rfl rfl (sh_Sum b h1 kR x1 (by omega) _) ?_
  rintro v M ⟨rfl, rfl⟩
  have hfl := sumF_len kR h1
  rw [hf]
  generalize sumF kR h1 = fs at *
  have hml : (fs.map u8V).length = 32 := by rw [List.length_map, hfl]
  refine go ?_
  refine WO.sv rfl ?_
  refine SV.store (vs := fs.map u8V) (l' := fs.map u8V) rfl rfl Cel.agg (by rw [hml]; rfl) (wo_ne hfl) (u8_cell _) (.inl (Nat.le_refl _)) (by decide) (lput_full (by rw [hml]; rfl)) ?_
  refine go ?_
  exact ⟨rfl, [_], ⟨Res.cell rfl (by rw [hml]; decide) (sub_full hml), trivial⟩, L, ent, rfl, rfl⟩
end Go.SL

/- Layer 7: a device: what its small functions do, each walked once. -/
namespace Go.SL
open Go.Proofs
set_option linter.unusedVariables false
set_option linter.unusedSimpArgs false
set_option maxRecDepth 10000
attribute [local irreducible] W WO SV OW SW Tri Ent Tk Has Src SrcK DA DB RdS Own

abbrev Byt := List UInt8
structure Dv where
  kept : List Byt
  now : List Byt
  waits : List (Nat × Byt)
  arm : Int
  down : Bool
  ops : Int
def flushN (kept : List Byt) (waits : List (Nat × Byt)) : Nat → List Byt
  | 0 => kept
  | i + 1 => (flushN kept waits i).set (waits.getD i (0, [])).1 (waits.getD i (0, [])).2
structure Dv.Ok (d : Dv) : Prop where
  now : d.now.length = d.kept.length
  size : d.kept.length ≤ 4096
  k256 : ∀ s ∈ d.kept, s.length = 256
  n256 : ∀ s ∈ d.now, s.length = 256
  w256 : ∀ w ∈ d.waits, w.1 < d.kept.length ∧ w.2.length = 256
  arm : -1 ≤ d.arm ∧ d.arm ≤ 9223372036854775807
  sync : flushN d.kept d.waits d.waits.length = d.now
def wrV (w : Nat × Byt) : List Value := [.int .i64 w.1, strV w.2]
/-- Whether there are blocks; a call; a block. -/
def Dv.call (d : Dv) (may : Bool) : Dv × Int :=
  if d.kept.length = 0 then (d, 1) else if may = false then (d, 2) else
    ({ d with ops := IntKind.i64.wrap (d.ops + 1), down := d.down || decide (d.arm = 0), arm := max (-1) (d.arm - 1) }, if d.down || decide (d.arm = 0) then 17 else 0)
def Dv.is (d : Dv) (n : Int) : Bool := decide (0 ≤ n) && decide (n < d.kept.length)

abbrev DvX := Option Addr × Nat × Option Addr × Nat × Option Addr × Nat
/-- Bytes of one's own. -/
def OS (a : Option Addr) (c : Nat) (s : Byt) : HP := Own 5 1 (.slice a s.length c) s.length (s.map u8V)
theorem OS.rd {a : Option Addr} {c : Nat} {s : Byt} {L R : List HP} (t : Tk L (OS a c s) R) (ha : SomeA a s.length) : RdS 1 a s.length (s.map u8V) L := RdS.ownS t ha (by simp)
theorem Dv.call_ok {d : Dv} (ok : d.Ok) (may : Bool) : (d.call may).1.Ok := by
  unfold Dv.call
  split
  · exact ok
  · split
    · exact ok
    · exact ⟨ok.now, ok.size, ok.k256, ok.n256, ok.w256, by have := ok.arm; dsimp only; omega, ok.sync⟩

/-! sync/atomic -/
/-! a call begins -/
end Go.SL

/- Layer 8: marks: what the small functions do, each walked once. -/
namespace Go.SL
open Go.Proofs
set_option linter.unusedVariables false
set_option linter.unusedSimpArgs false
set_option maxRecDepth 10000
set_option maxHeartbeats 4000000
attribute [local irreducible] W WO SV OW SW Tri Ent Tk Has Src SrcK DA DB RdS Own

/-- The i-th byte of a number, the greatest first. -/
def byteOf (v i : Nat) : UInt8 := UInt8.ofNat (v / 2 ^ (8 * (7 - i)))
def beN (v i : Nat) : Byt := (List.range i).map (byteOf v)
theorem beN_succ (v i : Nat) : beN v (i + 1) = beN v i ++ [byteOf v i] := by unfold beN; rw [List.range_succ, List.map_append]; rfl
@[simp] theorem beN_len (v i : Nat) : (beN v i).length = i := by simp [beN]
theorem u64_shr (v i : Nat) (z : Int) (h : z = 8 * (7 - (i : Int))) (hi : i < 8) : (v : Int).fdiv (2 ^ (min z.toNat (IntKind.bits .u64))) = ((v / 2 ^ (8 * (7 - i)) : Nat) : Int) := by
  have e : min z.toNat (IntKind.bits .u64) = 8 * (7 - i) := by subst h; show min _ 64 = _; omega
  rw [e, Int.fdiv_eq_ediv_of_nonneg _ (by exact_mod_cast Nat.zero_le _)]
  exact_mod_cast rfl
theorem u8_of (n : Nat) : IntKind.wrap .u8 (n : Int) = ((UInt8.ofNat n).toNat : Int) := by
  show ((n : Int) % 256) = _
  rw [UInt8.toNat_ofNat']
  exact_mod_cast rfl

end Go.SL

/- Layer 8: marks: what the small functions do, each walked once. -/
namespace Go.SL
open Go.Proofs
set_option linter.unusedVariables false
set_option linter.unusedSimpArgs false
set_option maxRecDepth 10000
set_option maxHeartbeats 4000000
attribute [local irreducible] W WO SV OW SW Tri Ent Tk Has Src SrcK DA DB RdS Own

abbrev mkL (k : UInt8) (e s : Nat) : List Value := [u8V k, .int .u64 e, .int .u64 s]
def mkB (k : UInt8) (e s : Nat) : Byt := [k] ++ beN e 8 ++ beN s 8
@[simp] theorem mkB_len (k : UInt8) (e s : Nat) : (mkB k e s).length = 17 := by simp [mkB]
/-- Whether a kind may be. -/
def mkR (k : UInt8) : Bool := !decide (k.toNat = 0) && !decide (k.toNat = 3)

theorem app_succ (p : Byt) (v i : Nat) : p ++ beN v (i + 1) = (p ++ beN v i) ++ [byteOf v i] := by rw [beN_succ, ← List.append_assoc]
end Go.SL

/- Layer 8: marks: trimming, cloning, reading. -/
namespace Go.SL
open Go.Proofs
set_option linter.unusedVariables false
set_option linter.unusedSimpArgs false
set_option maxRecDepth 10000
set_option maxHeartbeats 4000000
attribute [local irreducible] W WO SV OW SW Tri Ent Tk Has Src SrcK DA DB RdS Own

/-- How many bytes are left of some bytes behind those that are c at the end. -/
def trimR (c : UInt8) : Byt → Nat → Nat
  | s, 0 => 0
  | s, n + 1 => if s.getD n 0 = c then trimR c s n else n + 1
theorem trimR_le (c : UInt8) (s : Byt) : ∀ n, trimR c s n ≤ n
  | 0 => Nat.le_refl _
  | n + 1 => by
    have := trimR_le c s n
    rw [trimR]; split <;> omega
theorem trimR_zero {c : UInt8} {s : Byt} : ∀ {n}, n ≤ s.length → (trimR c s n = 0 ↔ ∀ x ∈ s.take n, x = c)
  | 0, _ => by simp [trimR]
  | n + 1, h => by
    have hg : s.getD n 0 = s[n] := by simp [show n < s.length by omega]
    have ih := trimR_zero (c := c) (s := s) (n := n) (by omega)
    rw [trimR, hg, List.take_succ_eq_append_getElem (by omega)]
    by_cases e : s[n] = c
    · rw [if_pos e, ih]
      simp only [List.mem_append, List.mem_singleton, e]
      exact ⟨fun h x hx => hx.elim (h x) id, fun h x hx => h x (.inl hx)⟩
    · rw [if_neg e]
      exact ⟨fun h => absurd h (Nat.succ_ne_zero _), fun h => absurd (h s[n] (List.mem_append.2 (.inr (List.mem_singleton.2 rfl)))) e⟩
end Go.SL

/- Layer 8: marks: whether all bytes are 0. -/
namespace Go.SL
open Go.Proofs
set_option linter.unusedVariables false
set_option linter.unusedSimpArgs false
set_option maxRecDepth 10000
set_option maxHeartbeats 4000000
attribute [local irreducible] W WO SV OW SW Tri Ent Tk Has Src SrcK DA DB RdS Own

theorem trimR_last {c : UInt8} {s : Byt} : ∀ {n}, trimR c s n ≠ 0 → s.getD (trimR c s n - 1) 0 ≠ c
  | 0, h => absurd rfl h
  | n + 1, h => by
    rw [trimR] at h ⊢
    by_cases e : s.getD n 0 = c
    · rw [if_pos e] at h ⊢; exact trimR_last h
    · rw [if_neg e]; exact e
end Go.SL

/- Layer 8: marks: reading one. -/
namespace Go.SL
open Go.Proofs
set_option linter.unusedVariables false
set_option linter.unusedSimpArgs false
set_option maxRecDepth 10000
set_option maxHeartbeats 4000000
attribute [local irreducible] W WO SV OW SW Tri Ent Tk Has Src SrcK DA DB RdS Own

/-- The number of k bytes from the i-th on. -/
def nbe (s : Byt) (i : Nat) : Nat → Nat
  | 0 => 0
  | k + 1 => nbe s i k * 256 + (s.getD (i + k) 0).toNat
theorem nbe_lt (s : Byt) (i : Nat) : ∀ k, nbe s i k < 256 ^ k
  | 0 => by simp [nbe]
  | k + 1 => by
    have h1 := nbe_lt s i k
    have h2 := (s.getD (i + k) 0).toNat_lt
    rw [nbe, Nat.pow_succ]
    omega
theorem nbe_56 (s : Byt) (i k : Nat) (h : k ≤ 7) : nbe s i k < 72057594037927936 :=
  Nat.lt_of_lt_of_le (nbe_lt s i k) (Nat.le_trans (Nat.pow_le_pow_right (by decide) h) (by decide))
theorem nbe_64 (s : Byt) (i : Nat) : nbe s i 8 < 18446744073709551616 := nbe_lt s i 8
theorem u64_wrap (x : Nat) (h : x < 18446744073709551616) : IntKind.wrap .u64 (x : Int) = x := by
  show (x : Int) % 18446744073709551616 = x
  omega
theorem u64_or (e : Nat) (c : UInt8) (he : e < 72057594037927936) : IntKind.wrap .u64 ((((((e * 256 : Nat) : Int)) % 2 ^ IntKind.bits .u64).toNat ||| (((c.toNat : Int)) % 2 ^ IntKind.bits .u64).toNat : Nat) : Int) = ((e * 256 + c.toNat : Nat) : Int) := by
  have hc := c.toNat_lt
  have h1 : (((e * 256 : Nat) : Int) % 2 ^ IntKind.bits .u64).toNat = 2 ^ 8 * e := by
    show (((e * 256 : Nat) : Int) % 18446744073709551616).toNat = _
    omega
  have h2 : ((c.toNat : Int) % 2 ^ IntKind.bits .u64).toNat = c.toNat := by
    show ((c.toNat : Int) % 18446744073709551616).toNat = _
    omega
  rw [h1, h2, ← Nat.two_pow_add_eq_or_of_lt (by omega), u64_wrap _ (by omega)]
  congr 1
  omega
theorem u64_shl8 (e : Nat) (he : e < 72057594037927936) : IntKind.wrap .u64 ((e : Int) * 2 ^ (min (8 : Int).toNat (IntKind.bits .u64))) = ((e * 256 : Nat) : Int) := by
  have : (e : Int) * 2 ^ (min (8 : Int).toNat (IntKind.bits .u64)) = ((e * 256 : Nat) : Int) := by
    show (e : Int) * 256 = _
    omega
  rw [this, u64_wrap _ (by omega)]

end Go.SL

/- Layer 1: numbers as bytes: the plain law. -/
namespace Go.SL
set_option linter.unusedVariables false
set_option linter.unusedSimpArgs false

/-- How many bytes a number takes. -/
def nbyF : Nat → Nat → Nat
  | 0, _ => 0
  | f + 1, v => if v = 0 then 0 else nbyF f (v / 256) + 1
def nby (v : Nat) : Nat := nbyF 9 v
/-- The last n bytes of a number. -/
def bytesN (v n : Nat) : Byt := (List.range n).map fun t => UInt8.ofNat (v / 256 ^ (n - 1 - t))
def encN (v : Nat) : Byt := UInt8.ofNat (nby v) :: bytesN v (nby v)
@[simp] theorem bytesN_len (v n : Nat) : (bytesN v n).length = n := by simp [bytesN]
theorem nbyF_spec : ∀ (f v : Nat), v < 256 ^ f → v < 256 ^ nbyF f v ∧ (nbyF f v ≠ 0 → 256 ^ (nbyF f v - 1) ≤ v) ∧ nbyF f v ≤ f
  | 0, v, h => ⟨by simpa [nbyF] using h, fun h => absurd rfl h, Nat.le_refl _⟩
  | f + 1, v, h => by
    unfold nbyF
    by_cases h0 : v = 0
    · rw [if_pos h0]; subst h0; exact ⟨by simp, fun h => absurd rfl h, Nat.zero_le _⟩
    · rw [if_neg h0]
      have hd : v / 256 < 256 ^ f := by rw [Nat.pow_succ] at h; omega
      obtain ⟨a, b, c⟩ := nbyF_spec f (v / 256) hd
      refine ⟨by rw [Nat.pow_succ]; omega, fun _ => ?_, by omega⟩
      show 256 ^ (nbyF f (v / 256)) ≤ v
      by_cases hz : nbyF f (v / 256) = 0
      · rw [hz]; simp; omega
      · have := b hz
        obtain ⟨m, hm⟩ : ∃ m, nbyF f (v / 256) = m + 1 := ⟨nbyF f (v / 256) - 1, by omega⟩
        rw [hm] at this ⊢
        rw [Nat.pow_succ]
        simp only [Nat.add_sub_cancel] at this
        omega
theorem nby_spec {v : Nat} (h : v < 18446744073709551616) : v < 256 ^ nby v ∧ (nby v ≠ 0 → 256 ^ (nby v - 1) ≤ v) ∧ nby v ≤ 8 := by
  obtain ⟨a, b, c⟩ := nbyF_spec 9 v (Nat.lt_of_lt_of_le h (by decide))
  refine ⟨a, b, ?_⟩
  refine Classical.byContradiction fun hc => ?_
  have e : nby v = 9 := by unfold nby at hc ⊢; omega
  have := b (by unfold nby at e; omega)
  unfold nby at e
  rw [e] at this
  have h2 : (256 : Nat) ^ (9 - 1) = 18446744073709551616 := by decide
  omega
theorem nby_of {v n : Nat} (hv : v < 18446744073709551616) (h1 : v < 256 ^ n) (h2 : n ≠ 0 → 256 ^ (n - 1) ≤ v) : nby v = n := by
  obtain ⟨a, b, _⟩ := nby_spec hv
  have key : ∀ p q : Nat, v < 256 ^ p → (q ≠ 0 → 256 ^ (q - 1) ≤ v) → q ≤ p := by
    intro p q hp hq
    refine Classical.byContradiction fun hc => ?_
    have h3 := hq (by omega)
    have h4 : 256 ^ p ≤ 256 ^ (q - 1) := Nat.pow_le_pow_right (by decide) (by omega)
    omega
  exact Nat.le_antisymm (key n (nby v) h1 b) (key (nby v) n a h2)
theorem nby_pos {v k : Nat} (hv : v < 18446744073709551616) : v / 256 ^ k = 0 ↔ nby v ≤ k := by
  obtain ⟨a, b, _⟩ := nby_spec hv
  have hp : 0 < 256 ^ k := Nat.pow_pos (by decide)
  constructor
  · intro h
    refine Classical.byContradiction fun hc => ?_
    have h3 := b (by omega)
    have h4 : 256 ^ k ≤ 256 ^ (nby v - 1) := Nat.pow_le_pow_right (by decide) (by omega)
    have h5 : v < 256 ^ k := by
      rw [Nat.div_eq_zero_iff] at h
      rcases h with h | h
      · omega
      · exact h
    omega
  · intro h
    exact Nat.div_eq_of_lt (Nat.lt_of_lt_of_le a (Nat.pow_le_pow_right (by decide) h))
theorem bytesN_succ (v k : Nat) : bytesN v (k + 1) = [UInt8.ofNat (v / 256 ^ k)] ++ bytesN v k := by
  unfold bytesN
  rw [List.range_succ_eq_map, List.map_cons, List.map_map, List.singleton_append]
  congr 1
  apply List.map_congr_left
  intro t ht
  rw [List.mem_range] at ht
  show UInt8.ofNat (v / 256 ^ (k + 1 - 1 - (t + 1))) = _
  congr 3
  omega
theorem bytesN_get {v n j : Nat} (h : j < n) : (bytesN v n)[j]? = some (UInt8.ofNat (v / 256 ^ (n - 1 - j))) := by
  unfold bytesN
  rw [List.getElem?_map, List.getElem?_range h]; rfl
theorem bytesN_take {v n j : Nat} (h : j < n) : (bytesN v n).take (j + 1) = (bytesN v n).take j ++ [UInt8.ofNat (v / 256 ^ (n - 1 - j))] := by
  have hl : j < (bytesN v n).length := by simpa using h
  rw [List.take_succ_eq_append_getElem hl]
  congr 2
  have := bytesN_get (v := v) h
  rw [List.getElem?_eq_getElem hl] at this
  exact Option.some.inj this
/-- What is read back. -/
theorem nbe_bytes (v : Nat) (q : Byt) : ∀ n k, k ≤ n → nbe (bytesN v n ++ q) 0 k = v % 256 ^ n / 256 ^ (n - k)
  | n, 0, _ => by
    rw [nbe, Nat.sub_zero, Nat.div_eq_of_lt (Nat.mod_lt _ (Nat.pow_pos (by decide)))]
  | n, k + 1, h => by
    have ih := nbe_bytes v q n k (by omega)
    have hg : (bytesN v n ++ q).getD (0 + k) 0 = UInt8.ofNat (v / 256 ^ (n - 1 - k)) := by
      rw [Nat.zero_add, List.getD_eq_getElem?_getD, List.getElem?_append_left (by simp; omega), bytesN_get (by omega)]; rfl
    rw [nbe, ih, hg, UInt8.toNat_ofNat', show n - (k + 1) = n - 1 - k by omega]
    obtain ⟨m, hm⟩ : ∃ m, n - 1 - k = m := ⟨_, rfl⟩
    have e1 : n - k = m + 1 := by omega
    have e2 : n = (k + 1) + m := by omega
    rw [hm, e1, Nat.pow_succ, ← Nat.div_div_eq_div_mul]
    have e3 : v % 256 ^ n / 256 ^ m = v / 256 ^ m % 256 ^ (k + 1) := by
      rw [e2, Nat.pow_add, Nat.mul_comm, Nat.mod_mul_right_div_self]
    rw [e3]
    have e4 : v / 256 ^ m % 2 ^ 8 = v / 256 ^ m % 256 ^ (k + 1) % 256 := by
      rw [Nat.mod_mod_of_dvd _ ⟨256 ^ k, by rw [Nat.pow_succ, Nat.mul_comm]⟩]
    rw [e4]
    omega
theorem nbe_enc {v : Nat} (hv : v < 18446744073709551616) (q : Byt) : nbe (bytesN v (nby v) ++ q) 0 (nby v) = v := by
  rw [nbe_bytes v q (nby v) (nby v) (Nat.le_refl _), Nat.sub_self, Nat.pow_zero, Nat.div_one]
  exact Nat.mod_eq_of_lt (nby_spec hv).1
theorem enc_head {v : Nat} (hv : v < 18446744073709551616) (h0 : nby v ≠ 0) : (bytesN v (nby v)).getD 0 0 ≠ 0 := by
  obtain ⟨a, b, c⟩ := nby_spec hv
  have h1 := b h0
  rw [List.getD_eq_getElem?_getD, bytesN_get (by omega)]
  intro h
  have := congrArg UInt8.toNat h
  rw [Option.getD_some, UInt8.toNat_ofNat', Nat.sub_zero] at this
  have h3 : v / 256 ^ (nby v - 1) < 256 := by
    rw [Nat.div_lt_iff_lt_mul (Nat.pow_pos (by decide)), ← Nat.pow_succ', show (nby v - 1).succ = nby v by omega]
    exact a
  have h4 : 1 ≤ v / 256 ^ (nby v - 1) := by
    rw [Nat.le_div_iff_mul_le (Nat.pow_pos (by decide)), Nat.one_mul]; exact h1
  have h5 : (0 : UInt8).toNat = 0 := rfl
  rw [h5] at this
  omega
theorem encN_len {v : Nat} (hv : v < 18446744073709551616) : (encN v).length ≤ 9 := by
  unfold encN
  have := (nby_spec hv).2.2
  simp; omega

/-! ### Reading -/
/-- What is left, and the first error. -/
structure LI where
  b : Byt
  bad : Nat
def LI.no (i : LI) (e : Nat) : LI := ⟨[], if i.bad = 0 then e else i.bad⟩
/-- A number. -/
def LI.num (i : LI) : LI × Nat :=
  if i.bad ≠ 0 then (i, 0)
  else match i.b with
    | [] => (i.no 10, 0)
    | c :: r =>
      if 8 < c.toNat then (i.no 11, 0)
      else if r.length < c.toNat then (i.no 10, 0)
      else if 0 < c.toNat ∧ r.getD 0 0 = 0 then (i.no 11, 0)
      else (⟨r.drop c.toNat, 0⟩, nbe r 0 c.toNat)
/-- One that is not above a greatest. -/
def LI.small (i : LI) (most : Nat) : LI × Nat :=
  if i.num.1.bad = 0 ∧ most < i.num.2 then (i.num.1.no 3, 0) else i.num
def LI.fin (i : LI) : Nat := if i.bad = 0 ∧ i.b ≠ [] then 11 else i.bad
theorem LI.num_enc {v : Nat} (hv : v < 18446744073709551616) (q : Byt) : (LI.mk (encN v ++ q) 0).num = (⟨q, 0⟩, v) := by
  have h8 := (nby_spec hv).2.2
  have hc : (UInt8.ofNat (nby v)).toNat = nby v := by rw [UInt8.toNat_ofNat']; omega
  unfold LI.num encN
  rw [if_neg (by simp)]
  simp only [List.cons_append, hc]
  rw [if_neg (by omega), if_neg (by simp), if_neg ?_]
  · rw [nbe_enc hv]
    congr 2
    rw [List.drop_append_of_le_length (by simp), List.drop_eq_nil_of_le (by simp), List.nil_append]
  · rintro ⟨h1, h2⟩
    refine enc_head hv (by omega) ?_
    rw [List.getD_eq_getElem?_getD, List.getElem?_append_left (by simpa using h1)] at h2
    rw [List.getD_eq_getElem?_getD]
    exact h2
theorem LI.num_lt (i : LI) : i.num.2 < 18446744073709551616 := by
  have hz : (0 : Nat) < 18446744073709551616 := by decide
  unfold LI.num
  split
  · exact hz
  · split
    · exact hz
    · split
      · exact hz
      · split
        · exact hz
        · split
          · exact hz
          · rename_i c r _ h1 _ _
            exact Nat.lt_of_lt_of_le (nbe_lt r 0 c.toNat) (Nat.le_trans (Nat.pow_le_pow_right (by decide) (show c.toNat ≤ 8 by omega)) (by decide))
theorem LI.num_bad (i : LI) (h : i.num.1.bad ≠ 0) : i.num.2 = 0 := by
  revert h
  unfold LI.num
  split
  · exact fun _ => rfl
  · split
    · exact fun _ => rfl
    · split
      · exact fun _ => rfl
      · split
        · exact fun _ => rfl
        · split
          · exact fun _ => rfl
          · exact fun h => absurd rfl h
theorem LI.num_len (i : LI) : i.num.1.b.length ≤ i.b.length := by
  unfold LI.num LI.no
  split
  · exact Nat.le_refl _
  · split
    · simp
    · split
      · simp
      · split
        · simp
        · split
          · simp
          · rename_i c r e _ _ _
            simp [e]; omega
theorem LI.small_enc {v m : Nat} (hv : v < 18446744073709551616) (hm : v ≤ m) (q : Byt) : (LI.mk (encN v ++ q) 0).small m = (⟨q, 0⟩, v) := by
  unfold LI.small
  rw [LI.num_enc hv, if_neg]
  rintro ⟨_, h⟩
  exact absurd h (by omega)
end Go.SL

/- Layer 1: the program's reader, walked. -/
namespace Go.SL
open Go.Proofs
set_option linter.unusedVariables false
set_option linter.unusedSimpArgs false
set_option maxRecDepth 10000
set_option maxHeartbeats 4000000
attribute [local irreducible] W WO SV OW SW Tri Ent Tk Has Src SrcK DA DB RdS Own

end Go.SL

/- Layer 1: the program's numbers, walked. -/
namespace Go.SL
open Go.Proofs
set_option linter.unusedVariables false
set_option linter.unusedSimpArgs false
set_option maxRecDepth 10000
set_option maxHeartbeats 4000000
attribute [local irreducible] W WO SV OW SW Tri Ent Tk Has Src SrcK DA DB RdS Own

end Go.SL

/- Layer 1: the program's numbers as bytes, walked. -/
namespace Go.SL
open Go.Proofs
set_option linter.unusedVariables false
set_option linter.unusedSimpArgs false
set_option maxRecDepth 10000
set_option maxHeartbeats 4000000
attribute [local irreducible] W WO SV OW SW Tri Ent Tk Has Src SrcK DA DB RdS Own

def bl (y : Nat) : Nat := if y = 0 then 0 else Nat.log2 y + 1
def lenTab : Byt := (List.range 256).map fun y => UInt8.ofNat (bl y)
theorem bl_spec {y : Nat} : y < 2 ^ bl y ∧ (y ≠ 0 → 2 ^ (bl y - 1) ≤ y ∧ bl y ≠ 0) := by
  unfold bl
  by_cases h : y = 0
  · subst h; exact ⟨by decide, fun h => absurd rfl h⟩
  · rw [if_neg h]
    exact ⟨Nat.lt_log2_self, fun _ => ⟨Nat.log2_self_le h, Nat.succ_ne_zero _⟩⟩
theorem bl_le {y : Nat} (h : y < 256) : bl y ≤ 8 := by
  refine Classical.byContradiction fun hc => ?_
  have h1 := bl_spec (y := y)
  have h0 : y ≠ 0 := by rintro rfl; exact hc (by decide)
  have h2 := (h1.2 h0).1
  have h3 : 2 ^ 8 ≤ 2 ^ (bl y - 1) := Nat.pow_le_pow_right (by decide) (by omega)
  omega
theorem lenTab_get {y : Nat} (h : y < 256) : lenTab[((y : Nat) : Int).toNat]? = some (UInt8.ofNat (bl y)) := by
  unfold lenTab
  simp [h]
theorem shrN (x s : Nat) (h : s ≤ 64) : (x : Int).fdiv (2 ^ (min ((s : Nat) : Int).toNat (IntKind.bits .u64))) = ((x / 2 ^ s : Nat) : Int) := by
  have e : min ((s : Nat) : Int).toNat (IntKind.bits .u64) = s := by show min _ 64 = _; omega
  rw [e, Int.fdiv_eq_ediv_of_nonneg _ (by exact_mod_cast Nat.zero_le _)]
  exact_mod_cast rfl
theorem len_of {x s : Nat} (h : x / 2 ^ s < 256) (hs : s ≠ 0 → 0 < x / 2 ^ s) : x < 2 ^ (s + bl (x / 2 ^ s)) ∧ (s + bl (x / 2 ^ s) ≠ 0 → 2 ^ (s + bl (x / 2 ^ s) - 1) ≤ x) := by
  obtain ⟨h1, h2⟩ := bl_spec (y := x / 2 ^ s)
  have hp : 0 < 2 ^ s := Nat.two_pow_pos s
  refine ⟨?_, fun hn => ?_⟩
  · rw [Nat.pow_add, Nat.mul_comm, ← Nat.div_lt_iff_lt_mul hp]; exact h1
  · have hy : x / 2 ^ s ≠ 0 := by
      intro hz
      have : s = 0 := Classical.byContradiction fun hs0 => by have := hs hs0; omega
      subst this
      rw [hz] at hn
      exact hn (by decide)
    obtain ⟨h3, h4⟩ := h2 hy
    rw [show s + bl (x / 2 ^ s) - 1 = s + (bl (x / 2 ^ s) - 1) by omega, Nat.pow_add, Nat.mul_comm]
    rw [← Nat.le_div_iff_mul_le hp]
    exact h3
theorem bi_Len64 (x : Nat) (L : List HP) (hx : x < 18446744073709551616) :
    TriE Try.prog 63 #[.int .u64 x] (fun r M => ∃ n : Nat, r = .int .i64 n ∧ x < 2 ^ n ∧ (n ≠ 0 → 2 ^ (n - 1) ≤ x) ∧ n ≤ 64 ∧ M = L) L := by
  have fin : ∀ s : Nat, s ≤ 56 → x / 2 ^ s < 256 → (s ≠ 0 → 0 < x / 2 ^ s) → ∃ n : Nat, Value.int .i64 ((s : Int) + ((UInt8.ofNat (bl (x / 2 ^ s))).toNat : Int)) = .int .i64 n ∧ x < 2 ^ n ∧ (n ≠ 0 → 2 ^ (n - 1) ≤ x) ∧ n ≤ 64 ∧ L = L := by
    intro s hs h1 h2
    have hb := bl_le h1
    obtain ⟨g1, g2⟩ := len_of h1 h2
    refine ⟨s + bl (x / 2 ^ s), ?_, g1, g2, by omega, rfl⟩
    rw [UInt8.toNat_ofNat']
    congr 1
    omega
  have c32 := shrN x 32 (by decide)
  have e32 : x / 2 ^ 32 = x / 4294967296 := rfl
  refine Tri.of (N := 25) (args := [.int .u64 x]) Try.func63 rfl rfl rfl ?_
  by_cases h32 : 4294967296 ≤ x
  · refine go ?_
    refine WO.sv rfl ?_
    refine SV.shr rfl rfl (by decide) (shrN (x) 32 (by decide)) ?_
    rw [show (x) / 2 ^ 32 = x / 4294967296 from rfl]
    by_cases h16 : 65536 ≤ x / 4294967296
    · refine go ?_
      refine WO.sv rfl ?_
      refine SV.shr rfl rfl (by decide) (shrN (x / 4294967296) 16 (by decide)) ?_
      rw [show (x / 4294967296) / 2 ^ 16 = x / 4294967296 / 65536 from rfl]
      by_cases h8 : 256 ≤ x / 4294967296 / 65536
      · refine go ?_
        refine WO.sv rfl ?_
        refine SV.shr rfl rfl (by decide) (shrN (x / 4294967296 / 65536) 8 (by decide)) ?_
        rw [show (x / 4294967296 / 65536) / 2 ^ 8 = x / 4294967296 / 65536 / 256 from rfl]
        refine go ?_
        refine WO.sv rfl ?_
        refine SV.indexS (s := lenTab) (by kernel_rfl) rfl (by omega) (lenTab_get (show x / 4294967296 / 65536 / 256 < 256 by omega)) ?_
        have hf := fin 56 (by decide) (by first | omega | (rw [show x / 2 ^ 56 = x / 4294967296 / 65536 / 256 by rw [Nat.div_div_eq_div_mul, Nat.div_div_eq_div_mul]]; omega)) (by first | omega | (rw [show x / 2 ^ 56 = x / 4294967296 / 65536 / 256 by rw [Nat.div_div_eq_div_mul, Nat.div_div_eq_div_mul]]; omega))
        rw [show x / 2 ^ 56 = x / 4294967296 / 65536 / 256 by rw [Nat.div_div_eq_div_mul, Nat.div_div_eq_div_mul]] at hf
        have hu := (UInt8.ofNat (bl (x / 4294967296 / 65536 / 256))).toNat_lt
        generalize (UInt8.ofNat (bl (x / 4294967296 / 65536 / 256))).toNat = u at *
        refine go ?_
        exact ⟨rfl, [_], ⟨Res.tmp rfl, trivial⟩, L, ent, hf⟩
      · refine go ?_
        refine WO.sv rfl ?_
        refine SV.indexS (s := lenTab) (by kernel_rfl) rfl (by omega) (lenTab_get (show x / 4294967296 / 65536 < 256 by omega)) ?_
        have hf := fin 48 (by decide) (by first | omega | (rw [show x / 2 ^ 48 = x / 4294967296 / 65536 by rw [Nat.div_div_eq_div_mul]]; omega)) (by first | omega | (rw [show x / 2 ^ 48 = x / 4294967296 / 65536 by rw [Nat.div_div_eq_div_mul]]; omega))
        rw [show x / 2 ^ 48 = x / 4294967296 / 65536 by rw [Nat.div_div_eq_div_mul]] at hf
        have hu := (UInt8.ofNat (bl (x / 4294967296 / 65536))).toNat_lt
        generalize (UInt8.ofNat (bl (x / 4294967296 / 65536))).toNat = u at *
        refine go ?_
        exact ⟨rfl, [_], ⟨Res.tmp rfl, trivial⟩, L, ent, hf⟩
    · by_cases h8 : 256 ≤ x / 4294967296
      · refine go ?_
        refine WO.sv rfl ?_
        refine SV.shr rfl rfl (by decide) (shrN (x / 4294967296) 8 (by decide)) ?_
        rw [show (x / 4294967296) / 2 ^ 8 = x / 4294967296 / 256 from rfl]
        refine go ?_
        refine WO.sv rfl ?_
        refine SV.indexS (s := lenTab) (by kernel_rfl) rfl (by omega) (lenTab_get (show x / 4294967296 / 256 < 256 by omega)) ?_
        have hf := fin 40 (by decide) (by first | omega | (rw [show x / 2 ^ 40 = x / 4294967296 / 256 by rw [Nat.div_div_eq_div_mul]]; omega)) (by first | omega | (rw [show x / 2 ^ 40 = x / 4294967296 / 256 by rw [Nat.div_div_eq_div_mul]]; omega))
        rw [show x / 2 ^ 40 = x / 4294967296 / 256 by rw [Nat.div_div_eq_div_mul]] at hf
        have hu := (UInt8.ofNat (bl (x / 4294967296 / 256))).toNat_lt
        generalize (UInt8.ofNat (bl (x / 4294967296 / 256))).toNat = u at *
        refine go ?_
        exact ⟨rfl, [_], ⟨Res.tmp rfl, trivial⟩, L, ent, hf⟩
      · refine go ?_
        refine WO.sv rfl ?_
        refine SV.indexS (s := lenTab) (by kernel_rfl) rfl (by omega) (lenTab_get (show x / 4294967296 < 256 by omega)) ?_
        have hf := fin 32 (by decide) (by first | omega | (rw [show x / 2 ^ 32 = x / 4294967296 by rfl]; omega)) (by first | omega | (rw [show x / 2 ^ 32 = x / 4294967296 by rfl]; omega))
        rw [show x / 2 ^ 32 = x / 4294967296 by rfl] at hf
        have hu := (UInt8.ofNat (bl (x / 4294967296))).toNat_lt
        generalize (UInt8.ofNat (bl (x / 4294967296))).toNat = u at *
        refine go ?_
        exact ⟨rfl, [_], ⟨Res.tmp rfl, trivial⟩, L, ent, hf⟩
  · by_cases h16 : 65536 ≤ x
    · refine go ?_
      refine WO.sv rfl ?_
      refine SV.shr rfl rfl (by decide) (shrN (x) 16 (by decide)) ?_
      rw [show (x) / 2 ^ 16 = x / 65536 from rfl]
      by_cases h8 : 256 ≤ x / 65536
      · refine go ?_
        refine WO.sv rfl ?_
        refine SV.shr rfl rfl (by decide) (shrN (x / 65536) 8 (by decide)) ?_
        rw [show (x / 65536) / 2 ^ 8 = x / 65536 / 256 from rfl]
        refine go ?_
        refine WO.sv rfl ?_
        refine SV.indexS (s := lenTab) (by kernel_rfl) rfl (by omega) (lenTab_get (show x / 65536 / 256 < 256 by omega)) ?_
        have hf := fin 24 (by decide) (by first | omega | (rw [show x / 2 ^ 24 = x / 65536 / 256 by rw [Nat.div_div_eq_div_mul]]; omega)) (by first | omega | (rw [show x / 2 ^ 24 = x / 65536 / 256 by rw [Nat.div_div_eq_div_mul]]; omega))
        rw [show x / 2 ^ 24 = x / 65536 / 256 by rw [Nat.div_div_eq_div_mul]] at hf
        have hu := (UInt8.ofNat (bl (x / 65536 / 256))).toNat_lt
        generalize (UInt8.ofNat (bl (x / 65536 / 256))).toNat = u at *
        refine go ?_
        exact ⟨rfl, [_], ⟨Res.tmp rfl, trivial⟩, L, ent, hf⟩
      · refine go ?_
        refine WO.sv rfl ?_
        refine SV.indexS (s := lenTab) (by kernel_rfl) rfl (by omega) (lenTab_get (show x / 65536 < 256 by omega)) ?_
        have hf := fin 16 (by decide) (by first | omega | (rw [show x / 2 ^ 16 = x / 65536 by rfl]; omega)) (by first | omega | (rw [show x / 2 ^ 16 = x / 65536 by rfl]; omega))
        rw [show x / 2 ^ 16 = x / 65536 by rfl] at hf
        have hu := (UInt8.ofNat (bl (x / 65536))).toNat_lt
        generalize (UInt8.ofNat (bl (x / 65536))).toNat = u at *
        refine go ?_
        exact ⟨rfl, [_], ⟨Res.tmp rfl, trivial⟩, L, ent, hf⟩
    · by_cases h8 : 256 ≤ x
      · refine go ?_
        refine WO.sv rfl ?_
        refine SV.shr rfl rfl (by decide) (shrN (x) 8 (by decide)) ?_
        rw [show (x) / 2 ^ 8 = x / 256 from rfl]
        refine go ?_
        refine WO.sv rfl ?_
        refine SV.indexS (s := lenTab) (by kernel_rfl) rfl (by omega) (lenTab_get (show x / 256 < 256 by omega)) ?_
        have hf := fin 8 (by decide) (by first | omega | (rw [show x / 2 ^ 8 = x / 256 by rfl]; omega)) (by first | omega | (rw [show x / 2 ^ 8 = x / 256 by rfl]; omega))
        rw [show x / 2 ^ 8 = x / 256 by rfl] at hf
        have hu := (UInt8.ofNat (bl (x / 256))).toNat_lt
        generalize (UInt8.ofNat (bl (x / 256))).toNat = u at *
        refine go ?_
        exact ⟨rfl, [_], ⟨Res.tmp rfl, trivial⟩, L, ent, hf⟩
      · refine go ?_
        refine WO.sv rfl ?_
        refine SV.indexS (s := lenTab) (by kernel_rfl) rfl (by omega) (lenTab_get (show x < 256 by omega)) ?_
        have hf := fin 0 (by decide) (by first | omega | (rw [show x / 2 ^ 0 = x by rw [Nat.pow_zero, Nat.div_one]]; omega)) (by first | omega | (rw [show x / 2 ^ 0 = x by rw [Nat.pow_zero, Nat.div_one]]; omega))
        rw [show x / 2 ^ 0 = x by rw [Nat.pow_zero, Nat.div_one]] at hf
        have hu := (UInt8.ofNat (bl (x))).toNat_lt
        generalize (UInt8.ofNat (bl (x))).toNat = u at *
        refine go ?_
        exact ⟨rfl, [_], ⟨Res.tmp rfl, trivial⟩, L, ent, hf⟩
end Go.SL

/- Layer 8: marks: sealing a block. -/
namespace Go.SL
open Go.Proofs
set_option linter.unusedVariables false
set_option linter.unusedSimpArgs false
set_option maxRecDepth 10000
set_option maxHeartbeats 4000000

theorem lput_mid (C : List Value) : ∀ (A B B' : List Value), B'.length = B.length → lput (A ++ (B ++ C)) A.length B' = A ++ (B' ++ C)
  | [], [], [], _ => by cases C <;> rfl
  | [], x :: B, y :: B', h => by
    have ih := lput_mid C [] B B' (by simpa using h)
    simp only [List.nil_append, List.length_nil, List.cons_append, lput] at ih ⊢
    rw [ih]
  | a :: A, B, B', h => by
    have ih := lput_mid C A B B' h
    cases B' with
    | nil =>
      have : B = [] := List.eq_nil_of_length_eq_zero h.symm
      subst this
      rfl
    | cons y B' =>
      simp only [List.cons_append, List.length_cons, lput]
      rw [ih]; rfl
theorem set_two (A : List Value) (h : A.length = 17) (x y z : Value) : ((A ++ List.replicate 239 z).set (0 + ((17 : Nat) : Int).toNat * 1) x).set (0 + (((17 : Nat) : Int) + 1).toNat * 1) y = A ++ ([x, y] ++ List.replicate 237 z) := by
  show ((A ++ List.replicate 239 z).set 17 x).set 18 y = _
  rw [List.set_append_right _ _ (by omega), List.set_append_right _ _ (by omega), h]
  rfl
section
variable {P : Program} {ro : Option Nat} {f : Frm} {L : List HP} {d : Option Nat} {ty : TypeId} {ps : String} {af : Array Edge} {gu : Option (Nat × Bool)} {K : Value → List HP → Prop}
/-- A copy into the middle of a row. -/
theorem SV.copyM {tS tX e : Nat} {x y : Operand} {v : Value} {b off n cap m : Nat} {l ys : List Value} {T : TypeId} {fr : Nat × Nat} {M : Obj → List HP} (A B C : List Value) (hx : f.ev x = .slice (some ⟨b, off, none⟩) n cap) (hy : f.ev y = v) [he : TE P tS e 1] (src : SrcK P 1 v m ys L) (hc : ys.all isCell = true)
    [r : Wr L b (.cells l.toArray T fr) M] [rm : WrM M b] (hf : fr.2 ≤ fr.1 ∨ off + n ≤ fr.1) (hM : M (.cells l.toArray T fr) = L) (hl' : l = A ++ (B ++ C)) (ho : off = A.length) (hm : m = B.length) (hmn : m ≤ n) (hn : off + n ≤ l.length)
    (h : K (.int .i64 (m : Nat)) (M (.cells (A ++ (ys ++ C)).toArray T fr))) : SV P ro ⟨d, .call { callee := .builtin .copy, args := #[x, y], argTypes := #[tS, tX] }, ty, ps, af, gu⟩ f K L := by
  have hys := src.2.1
  have e1 : ys.take (min m n * 1) = ys := List.take_of_length_le (by rw [hys, Nat.min_eq_left hmn]; omega)
  refine SV.copy hx hy src hc (by omega) (by rw [Nat.mul_one]; exact hf) ?_ ?_
  · rw [e1, Nat.min_eq_left hmn, hl', ho, lput_mid C A B ys (by omega)]; exact h
  · intro e0
    rw [e1] at e0
    subst e0
    have : B = [] := List.eq_nil_of_length_eq_zero (by simp at hys; omega)
    subst this
    rw [Nat.min_eq_left hmn]
    rw [List.nil_append] at h
    rw [List.nil_append] at hl'
    rw [← hl', hM] at h
    exact h
end
attribute [local irreducible] W WO SV OW SW Tri Ent Tk Has Src SrcK DA DB RdS Own

/-- A sealed block. -/
def sealB (k : UInt8) (e s : Nat) (b : Byt) : Byt := mkB k e s ++ ([0, UInt8.ofNat b.length] ++ (b ++ (List.replicate (220 - b.length) 0 ++ mkB k e s)))
theorem sealB_len {k : UInt8} {e s : Nat} {b : Byt} (h : b.length ≤ 220) : (sealB k e s b).length = 256 := by simp [sealB]; omega
abbrev zr (n : Nat) : List Value := List.replicate n (u8V 0)
end Go.SL

/- Layer 8: marks: whether two are one; parts of rows. -/
namespace Go.SL
open Go.Proofs
set_option linter.unusedVariables false
set_option linter.unusedSimpArgs false
set_option maxRecDepth 10000
set_option maxHeartbeats 4000000

/-- A part of a row. -/
theorem RdS.sub {n i k b off : Nat} {xs : List Value} {L : List HP} (r : RdS 1 (some ⟨b, off, none⟩) n xs L) (h : i + k ≤ n) : RdS 1 (some ⟨b, off + i, none⟩) k ((xs.drop i).take k) L := by
  have hx := r.len
  refine ⟨by simp; omega, fun _ => ⟨b, off + i, rfl⟩, fun b' off' e h0 q x => ?_⟩
  injection e with e
  injection e with e1 e2
  subst e1; subst e2
  obtain ⟨l, T, fr, q1, q2, q3⟩ := r.2.2 b off rfl (by omega) q x
  refine ⟨l, T, fr, q1, by omega, ?_⟩
  rw [Nat.mul_one] at q2 q3 ⊢
  rw [← q3, ← lsub_lsub l off n i k q2 h, lsub_eq, lsub_eq]

section
variable {ro : Option Nat} {f : Frm} {L : List HP} {d : Option Nat} {ty : TypeId} {ps : String} {af : Array Edge} {gu : Option (Nat × Bool)} {K : Value → List HP → Prop}
end
end Go.SL

/- Layer 8: marks: opening a block. -/
namespace Go.SL
open Go.Proofs
set_option linter.unusedVariables false
set_option linter.unusedSimpArgs false
set_option maxRecDepth 10000
set_option maxHeartbeats 4000000
attribute [local irreducible] W WO SV OW SW Tri Ent Tk Has Src SrcK DA DB RdS Own

/-- How many bytes a block says it has; the mark at its end; the bytes; whether it is sealed. -/
def opN (s : Byt) : Nat := (s.getD 17 0).toNat * 256 + (s.getD 18 0).toNat
def opT (s : Byt) : Byt := (s.drop 239).take 17
def opB (s : Byt) : Byt := (s.drop 19).take (opN s)
def opZ (s : Byt) : Byt := (s.drop (19 + opN s)).take (220 - opN s)
def opOk (s : Byt) : Bool :=
  mkR (s.getD 0 0) && decide (s.getD 0 0 = (opT s).getD 0 0 ∧ nbe s 1 8 = nbe (opT s) 1 8 ∧ nbe s 9 8 = nbe (opT s) 9 8) && decide (opN s ≤ 220) && decide (∀ x ∈ opZ s, x = 0)
theorem i64_or (a : Nat) (c : UInt8) (ha : a < 65536) : IntKind.wrap .i64 ((((((a * 256 : Nat) : Int)) % 2 ^ IntKind.bits .i64).toNat ||| (((c.toNat : Int)) % 2 ^ IntKind.bits .i64).toNat : Nat) : Int) = ((a * 256 + c.toNat : Nat) : Int) := by
  have hc := c.toNat_lt
  have h1 : (((a * 256 : Nat) : Int) % 2 ^ IntKind.bits .i64).toNat = 2 ^ 8 * a := by
    show (((a * 256 : Nat) : Int) % 18446744073709551616).toNat = _
    omega
  have h2 : ((c.toNat : Int) % 2 ^ IntKind.bits .i64).toNat = c.toNat := by
    show ((c.toNat : Int) % 18446744073709551616).toNat = _
    omega
  rw [h1, h2, ← Nat.two_pow_add_eq_or_of_lt (by omega)]
  rw [show ((2 ^ 8 * a + c.toNat : Nat) : Int) = ((a * 256 + c.toNat : Nat) : Int) by congr 1; omega]
  exact wI
theorem i64_shl8 (a : Nat) (ha : a < 65536) : IntKind.wrap .i64 ((a : Int) * 2 ^ (min (8 : Int).toNat (IntKind.bits .i64))) = ((a * 256 : Nat) : Int) := by
  have : (a : Int) * 2 ^ (min (8 : Int).toNat (IntKind.bits .i64)) = ((a * 256 : Nat) : Int) := by
    show (a : Int) * 256 = _
    omega
  rw [this]
  exact wI

end Go.SL

/- Layer 8: marks: the document's sealed block. -/
namespace Go.SL
open Go.Proofs
set_option linter.unusedVariables false
set_option linter.unusedSimpArgs false
set_option maxRecDepth 10000
set_option maxHeartbeats 4000000
attribute [local irreducible] W WO SV OW SW Tri Ent Tk Has Src SrcK DA DB RdS Own

theorem u8len {n : Nat} (h : n ≤ 220) : Value.int .u8 ((n : Nat) : Int) = u8V (UInt8.ofNat n) := by
  show _ = Value.int .u8 ((UInt8.ofNat n).toNat : Int)
  rw [UInt8.toNat_ofNat', Nat.mod_eq_of_lt (by omega)]
end Go.SL

/- Layer 1: the document's numbers, walked. -/
namespace Go.SL
open Go.Proofs
set_option linter.unusedVariables false
set_option linter.unusedSimpArgs false
set_option maxRecDepth 10000
set_option maxHeartbeats 4000000
attribute [local irreducible] W WO SV OW SW Tri Ent Tk Has Src SrcK DA DB RdS Own

abbrev liL (b : Byt) (bad : Nat) : List Value := [strV b, .int .i64 bad]
theorem u8_256 (n : Nat) : Value.int .u8 ((n : Int) % 256) = u8V (UInt8.ofNat n) := by
  show _ = Value.int .u8 _
  rw [UInt8.toNat_ofNat']
  congr 1
theorem u8_lit (n : Nat) (h : n < 256) : Value.int .u8 (n : Int) = u8V (UInt8.ofNat n) := by
  show _ = Value.int .u8 _
  rw [UInt8.toNat_ofNat']
  congr 1
  omega
theorem r1_Put (b : Byt) (v : Nat) (L : List HP) (hb : b.length ≤ 1000000) (hv : v < 18446744073709551616) :
    TriE Try.prog 53 #[strV b, .int .u64 v] (fun r M => r = strV (b ++ encN v) ∧ M = L) L := by
  have h8 := (nby_spec hv).2.2
  refine Tri.of (N := 26) (args := [strV b, .int .u64 v]) Try.func53 rfl rfl rfl ?_
  refine go ?_
  refine W.loopS 131042 rfl (fun k : Nat => [(1, .int .u64 ((v / 256 ^ k : Nat) : Int)), (5, strV (bytesN v k))]) (fun _ => L)
    (fun k => k ≤ nby v) (fun k => nby v - k) 0 ⟨by rw [Nat.pow_zero, Nat.div_one]; rfl, rfl, trivial⟩ (Nat.zero_le _) (Ent.app (Ent.refl _)) ?_
  intro k bg hk
  have hdiv : v / 256 ^ k < 18446744073709551616 := Nat.lt_of_le_of_lt (Nat.div_le_self _ _) hv
  have hz := nby_pos (k := k) hv
  have hs := bytesN_succ v k
  have hl : (bytesN v k).length = k := bytesN_len v k
  have hd2 : v / 256 ^ (k + 1) = v / 256 ^ k / 256 := by rw [Nat.pow_succ, Nat.div_div_eq_div_mul]
  by_cases h9 : k < nby v
  · have hne : v / 256 ^ k ≠ 0 := fun h => by have := hz.1 h; omega
    have hd3 : ((v / 256 ^ (k + 1) : Nat) : Int) = ((v / 256 ^ k : Nat) : Int) / 256 := by rw [hd2]; omega
    clear hd2
    generalize v / 256 ^ k = y at *
    generalize bytesN v k = s at *
    refine go ?_
    refine WO.sv rfl ?_
    refine SV.lit rfl rfl rfl parts rfl nl ?_
    intro b2
    rw [u8_256]
    refine go ?_
    refine WO.sv rfl ?_
    refine SV.toStrR rfl (bs := [UInt8.ofNat y]) (RdS.all (sz := 1) (n := 1) rfl) ?_
    refine go ?_
    refine WO.sv rfl ?_
    refine SV.concat rfl rfl (by simp; omega) ?_
    refine go ?_
    exact ⟨k + 1, ⟨congrArg (Value.int .u64) hd3.symm, by rw [hs]; rfl, trivial⟩, rfl, by omega, by omega, Ent.app ent⟩
  · obtain rfl : k = nby v := by omega
    have h0 : v / 256 ^ nby v = 0 := hz.2 (Nat.le_refl _)
    have he : encN v = [UInt8.ofNat (nby v)] ++ bytesN v (nby v) := rfl
    rw [he, h0]
    generalize bytesN v (nby v) = s at *
    generalize nby v = n at *
    refine go ?_
    refine WO.sv rfl ?_
    refine SV.lit rfl rfl rfl parts rfl nl ?_
    intro b2
    rw [hl, u8_lit n (by omega)]
    refine go ?_
    refine WO.sv rfl ?_
    refine SV.toStrR rfl (bs := [UInt8.ofNat n]) (RdS.all (sz := 1) (n := 1) rfl) ?_
    refine go ?_
    refine WO.sv rfl ?_
    refine SV.concat rfl rfl (by simp; omega) ?_
    refine go ?_
    refine WO.sv rfl ?_
    refine SV.concat rfl rfl (by simp; omega) ?_
    refine go ?_
    exact ⟨rfl, [_], ⟨Res.tmp rfl, trivial⟩, L, ent, by rw [List.append_assoc]; rfl, rfl⟩
end Go.SL

/- Layer 1: the program lays numbers, walked. -/
namespace Go.SL
open Go.Proofs
set_option linter.unusedVariables false
set_option linter.unusedSimpArgs false
set_option maxRecDepth 10000
set_option maxHeartbeats 4000000
attribute [local irreducible] W WO SV OW SW Tri Ent Tk Has Src SrcK DA DB RdS Own

def u64V (v : Nat) : Value := .int .u64 v
theorem nby_len {v n : Nat} (hv : v < 18446744073709551616) (h1 : v < 2 ^ n) (h2 : n ≠ 0 → 2 ^ (n - 1) ≤ v) : nby v = (n + 7) / 8 := by
  have e : ∀ m, (256 : Nat) ^ m = 2 ^ (8 * m) := fun m => by rw [Nat.pow_mul]
  refine nby_of hv ?_ fun h => ?_
  · rw [e]
    exact Nat.lt_of_lt_of_le h1 (Nat.pow_le_pow_right (by decide) (by omega))
  · rw [e]
    exact Nat.le_trans (Nat.pow_le_pow_right (by decide) (by omega)) (h2 (by omega))
theorem shr8 (v n j : Nat) (z : Int) (h : z = 8 * ((n : Int) - 1 - (j : Int))) (hj : j < n) (hn : n ≤ 8) : (v : Int).fdiv (2 ^ (min z.toNat (IntKind.bits .u64))) = ((v / 256 ^ (n - 1 - j) : Nat) : Int) := by
  have e : min z.toNat (IntKind.bits .u64) = 8 * (n - 1 - j) := by subst h; show min _ 64 = _; omega
  have e2 : (256 : Nat) ^ (n - 1 - j) = 2 ^ (8 * (n - 1 - j)) := by rw [Nat.pow_mul]
  rw [e, e2, Int.fdiv_eq_ediv_of_nonneg _ (by exact_mod_cast Nat.zero_le _)]
  exact_mod_cast rfl
theorem l1_Put (a1 : Option Addr) (c1 : Nat) (b : Byt) (a2 : Option Addr) (c2 : Nat) (vs : List Nat) (L : List HP) (hb : b.length ≤ 100000) (hl : vs.length ≤ 1000) (hv : ∀ v ∈ vs, v < 18446744073709551616)
    (r1 : RdS 1 a1 b.length (b.map u8V) L) (r2 : RdS 1 a2 vs.length (vs.map u64V) L) :
    TriE Try.prog 44 #[.slice a1 b.length c1, .slice a2 vs.length c2] (fun r M => ∃ a' c', r = .slice a' (b ++ vs.flatMap encN).length c' ∧ SomeA a' (b ++ vs.flatMap encN).length ∧ M = OS a' c' (b ++ vs.flatMap encN) :: L) L := by
  have hlen : ∀ i, (b ++ (vs.take i).flatMap encN).length ≤ b.length + 9 * i := by
    intro i
    rw [List.length_append]
    have : ∀ l : List Nat, (∀ v ∈ l, v < 18446744073709551616) → (l.flatMap encN).length ≤ 9 * l.length := by
      intro l
      induction l with
      | nil => intro _; simp
      | cons x l ih =>
        intro h
        rw [List.flatMap_cons, List.length_append, List.length_cons]
        have := encN_len (h x (List.mem_cons_self ..))
        have := ih fun v hv => h v (List.mem_cons_of_mem _ hv)
        omega
    have h1 := this (vs.take i) fun v h => hv v (List.mem_of_mem_take h)
    have h2 : (vs.take i).length ≤ i := List.length_take_le _ _
    omega
  refine Tri.of (N := 45) (args := [.slice a1 b.length c1, .slice a2 vs.length c2]) Try.func44 rfl rfl rfl ?_
  unfold OS
  refine go ?_
  refine WO.sv rfl ?_
  refine SV.lit0 ?_
  intro b0
  refine go ?_
  refine WO.ent (ent_own (sz := 1) (n := 0) rfl) ?_
  refine WO.sv rfl ?_
  refine SV.append rfl rfl rfl tk (RdS.src r1) (by rw [r1.len]) (by simp [u8V, isCell]) (by omega) rfl ?_
  intro a0 c0 ha0
  rw [Nat.zero_add, List.nil_append] at *
  refine go ?_
  refine W.loopS 17592186012576 rfl (fun q : Nat × Option Addr × Nat => [(15, .int .i64 (q.1 : Int)), (5, .slice q.2.1 (b ++ (vs.take q.1).flatMap encN).length q.2.2)])
    (fun q => Own 5 1 (.slice q.2.1 (b ++ (vs.take q.1).flatMap encN).length q.2.2) (b ++ (vs.take q.1).flatMap encN).length ((b ++ (vs.take q.1).flatMap encN).map u8V) :: L)
    (fun q => q.1 ≤ vs.length ∧ SomeA q.2.1 (b ++ (vs.take q.1).flatMap encN).length) (fun q => vs.length - q.1) (0, a0, c0) ?_ ?_ (Ent.app ?_) ?_
  · refine ⟨rfl, ?_, trivial⟩
    show _ = Value.slice a0 (b ++ (vs.take 0).flatMap encN).length c0
    rw [List.take_zero, List.flatMap_nil, List.append_nil]; rfl
  · refine ⟨Nat.zero_le _, ?_⟩
    show SomeA a0 (b ++ (vs.take 0).flatMap encN).length
    rw [List.take_zero, List.flatMap_nil, List.append_nil]; exact ha0
  · dsimp only
    rw [List.take_zero, List.flatMap_nil, List.append_nil]; exact ent
  rintro ⟨i, a, c⟩ bg ⟨hi, hsa⟩
  dsimp only at hi hsa ⊢
  have hle := hlen i
  by_cases h9 : i < vs.length
  · have hvi := hv vs[i] (List.getElem_mem h9)
    have hg : (vs.map u64V)[i]? = some (u64V vs[i]) := by rw [List.getElem?_map, List.getElem?_eq_getElem h9]; rfl
    have hs : b ++ (vs.take (i + 1)).flatMap encN = (b ++ (vs.take i).flatMap encN) ++ encN vs[i] := by
      rw [List.take_succ_eq_append_getElem h9, List.flatMap_append, List.append_assoc]
      simp
    generalize vs[i] = v at *
    generalize b ++ (vs.take i).flatMap encN = out at *
    obtain ⟨b2, o2, rfl⟩ := r2.at (by omega)
    refine go ?_
    refine WO.sv rfl ?_
    refine SV.loadR i rfl (RdS.ent ent r2) (by omega) hg ?_
    refine go ?_
    refine WO.callE (vs := [.int .u64 v]) Try.func63 rfl rfl rfl rfl (bi_Len64 v _ hvi) ?_
    rintro r M ⟨n, rfl, g1, g2, g3, rfl⟩
    have hnb : ((n : Int) + 8 - 1) / 8 = ((nby v : Nat) : Int) := by rw [nby_len hvi g1 g2]; omega
    have h8 := (nby_spec hvi).2.2
    refine go ?_
    rw [hnb]
    have hbl : (bytesN v (nby v)).length = nby v := bytesN_len _ _
    have henc : encN v = [UInt8.ofNat (nby v)] ++ bytesN v (nby v) := rfl
    have htk : ∀ j, j < nby v → (bytesN v (nby v)).take (j + 1) = (bytesN v (nby v)).take j ++ [UInt8.ofNat (v / 256 ^ (nby v - 1 - j))] := fun j hj => bytesN_take hj
    rw [henc] at hs
    clear henc
    generalize bytesN v (nby v) = bs at *
    generalize nby v = m at *
    refine go ?_
    refine WO.sv rfl ?_
    refine SV.lit rfl rfl rfl parts rfl nl ?_
    intro b3
    rw [u8_lit m (by omega)]
    refine go ?_
    refine WO.sv rfl ?_
    refine SV.append rfl rfl rfl tk (RdS.src (RdS.all (sz := 1) (n := 1) rfl)) rfl rfl (by omega) rfl ?_
    intro a4 c4 ha4
    refine go ?_
    refine W.loopS 8793945539104 rfl (fun q : Nat × Option Addr × Nat => [(9, .int .i64 ((m : Int) - 1 - (q.1 : Int))), (5, .slice q.2.1 (out.length + 1 + q.1) q.2.2)])
      (fun q => Own 5 1 (.slice q.2.1 (out.length + 1 + q.1) q.2.2) (out.length + 1 + q.1) ((out ++ [UInt8.ofNat m] ++ bs.take q.1).map u8V) :: L)
      (fun q => q.1 ≤ m ∧ SomeA q.2.1 (out.length + 1 + q.1)) (fun q => m - q.1) (0, a4, c4) ⟨?_, rfl, trivial⟩ ⟨Nat.zero_le _, fun _ => ha4 (by omega)⟩ (Ent.app ?_) ?_
    · show Value.int _ _ = Value.int _ _
      congr 1; dsimp only; omega
    · dsimp only
      rw [List.take_zero, List.append_nil, List.map_append]
      exact ent
    rintro ⟨j, a5, c5⟩ bg2 ⟨hj, hsa5⟩
    dsimp only at hj hsa5 ⊢
    by_cases h7 : j < m
    · have ht := htk j h7
      refine go ?_
      refine WO.sv rfl ?_
      refine SV.shr rfl rfl (by omega) (shr8 v m j _ (by omega) h7 h8) ?_
      refine WO.sv rfl ?_
      refine SV.convInt rfl (u8_of _) ?_
      refine WO.sv rfl ?_
      refine SV.lit rfl rfl rfl parts rfl nl ?_
      intro b6
      refine WO.sv rfl ?_
      refine SV.append rfl rfl rfl tk (RdS.src (RdS.all (sz := 1) (n := 1) rfl)) rfl rfl (by omega) rfl ?_
      intro a7 c7 ha7
      refine go ?_
      refine ⟨(j + 1, a7, c7), ⟨?_, rfl, trivial⟩, rfl, ⟨by dsimp only; omega, fun _ => ha7 (by omega)⟩, by dsimp only; omega, Ent.app ?_⟩
      · show Value.int _ _ = Value.int _ _
        congr 1; dsimp only; omega
      · dsimp only
        rw [ht, ← List.append_assoc, List.map_append (l₂ := [UInt8.ofNat (v / 256 ^ (m - 1 - j))])]
        exact ent
    · obtain rfl : j = m := by omega
      have e1 : bs.take j = bs := List.take_of_length_le (by omega)
      have e2 : (b ++ (vs.take (i + 1)).flatMap encN).length = out.length + 1 + j := by rw [hs]; simp; omega
      rw [e1] at *
      refine go ?_
      refine ⟨(i + 1, a5, c5), ⟨rfl, ?_, trivial⟩, rfl, ⟨by dsimp only; omega, ?_⟩, by dsimp only; omega, Ent.app ?_⟩
      · dsimp only; rw [e2]; rfl
      · dsimp only; rw [e2]; exact hsa5
      · dsimp only
        rw [e2, hs, ← List.append_assoc]
        exact ent
  · obtain rfl : i = vs.length := by omega
    rw [List.take_length] at *
    refine go ?_
    exact ⟨rfl, [_], ⟨Res.tmp rfl, trivial⟩, _, Ent.refl _, a, c, rfl, hsa, rfl⟩
end Go.SL

/- Layer 1 (lay): texts are laid, walked. -/
namespace Go.SL
open Go.Proofs
set_option linter.unusedVariables false
set_option linter.unusedSimpArgs false
set_option linter.unusedSectionVars false
set_option maxRecDepth 10000
set_option maxHeartbeats 4000000
attribute [local irreducible] W WO SV OW SW Tri Ent Tk Has Src SrcK DA DB DP RdS Own OwnT MapH

def encS (s : BL) : BL := encN s.length ++ s
theorem RdS.OS {a : Option Addr} {c : Nat} {s : BL} {L : List HP} (ha : SomeA a s.length) : RdS 1 a s.length (s.map u8V) (OS a c s :: L) := by
  unfold SL.OS; exact RdS.ownS Tk.here ha (by simp)
theorem l1_PutText (a1 : Option Addr) (c1 : Nat) (b : BL) (a2 : Option Addr) (c2 : Nat) (ss : List BL) (L : List HP) (hb : (b ++ ss.flatMap encS).length ≤ 100000) (hl : ss.length ≤ 1000)
    (r1 : RdS 1 a1 b.length (b.map u8V) L) (r2 : RdS 1 a2 ss.length (ss.map strV) L) :
    TriE Try.prog 45 #[.slice a1 b.length c1, .slice a2 ss.length c2] (fun r M => ∃ a' c', r = .slice a' (b ++ ss.flatMap encS).length c' ∧ SomeA a' (b ++ ss.flatMap encS).length ∧ M = OS a' c' (b ++ ss.flatMap encS) :: L) L := by
  have hlen : ∀ i, (b ++ (ss.take i).flatMap encS).length ≤ 100000 := by
    intro i
    refine Nat.le_trans ?_ hb
    rw [List.length_append, List.length_append]
    conv => rhs; rw [← List.take_append_drop i ss, List.flatMap_append, List.length_append]
    omega
  refine Tri.of (N := 27) (args := [.slice a1 b.length c1, .slice a2 ss.length c2]) Try.func45 rfl rfl rfl ?_
  refine go ?_
  refine WO.sv rfl ?_
  refine SV.lit0 ?_
  intro b0
  refine go ?_
  refine WO.ent (ent_own (sz := 1) (n := 0) rfl) ?_
  refine WO.sv rfl ?_
  have hb1 : b.length ≤ 100000 := by simp at hb; omega
  refine SV.append rfl rfl rfl tk (RdS.src r1) (by rw [r1.len]) (by simp [u8V, isCell]) (by omega) rfl ?_
  intro a0 c0 ha0
  rw [Nat.zero_add, List.nil_append] at *
  refine go ?_
  refine W.loopS 67100832 rfl (fun q : Nat × Option Addr × Nat => [(13, .int .i64 (q.1 : Int)), (5, .slice q.2.1 (b ++ (ss.take q.1).flatMap encS).length q.2.2)])
    (fun q => OS q.2.1 q.2.2 (b ++ (ss.take q.1).flatMap encS) :: L)
    (fun q => q.1 ≤ ss.length ∧ SomeA q.2.1 (b ++ (ss.take q.1).flatMap encS).length) (fun q => ss.length - q.1) (0, a0, c0) ?_ ?_ (Ent.app ?_) ?_
  · refine ⟨rfl, ?_, trivial⟩
    show _ = Value.slice a0 (b ++ (ss.take 0).flatMap encS).length c0
    rw [List.take_zero, List.flatMap_nil, List.append_nil]; rfl
  · refine ⟨Nat.zero_le _, ?_⟩
    show SomeA a0 (b ++ (ss.take 0).flatMap encS).length
    rw [List.take_zero, List.flatMap_nil, List.append_nil]; exact ha0
  · dsimp only
    rw [List.take_zero, List.flatMap_nil, List.append_nil]; unfold OS; exact ent
  rintro ⟨i, a, c⟩ bg ⟨hi, hsa⟩
  dsimp only at hi hsa ⊢
  have hle := hlen i
  have hle1 := hlen (i + 1)
  by_cases h9 : i < ss.length
  · have hg : (ss.map strV)[i]? = some (strV ss[i]) := by rw [List.getElem?_map, List.getElem?_eq_getElem h9]; rfl
    have hs : b ++ (ss.take (i + 1)).flatMap encS = (b ++ (ss.take i).flatMap encS) ++ (encN ss[i].length ++ ss[i]) := by
      rw [List.take_succ_eq_append_getElem h9, List.flatMap_append, List.append_assoc]
      simp [encS]
    generalize ss[i] = s at *
    rw [hs] at hle1
    generalize b ++ (ss.take i).flatMap encS = out at *
    obtain ⟨b2, o2, rfl⟩ := r2.at (by omega)
    have hsl : s.length ≤ 100000 := by simp at hle1; omega
    refine go ?_
    refine WO.sv rfl ?_
    refine SV.loadR i rfl r2.cons (by omega) hg ?_
    refine go ?_
    refine WO.sv rfl ?_
    refine SV.lit rfl rfl rfl parts rfl nl ?_
    intro b3
    refine go ?_
    refine WO.callE (vs := [.slice a out.length c, .slice (some ⟨b3, 0, none⟩) 1 1]) Try.func44 rfl rfl rfl rfl (l1_Put a c out (some ⟨b3, 0, none⟩) 1 [s.length] _ (by omega) (by simp) (by simp; omega) (RdS.OS hsa).cons (RdS.all (sz := 1) (n := 1) rfl)) ?_
    rintro r M ⟨a4, c4, rfl, ha4, rfl⟩
    refine go ?_
    have he1 : ([s.length] : List Nat).flatMap encN = encN s.length := by simp
    rw [he1] at ha4 ⊢
    rw [← List.append_assoc] at hs hle1
    generalize encN s.length = es at *
    refine WO.sv rfl ?_
    unfold OS
    refine SV.append rfl rfl rfl Tk.here Src.str (by simp) (by simp [u8V, isCell]) (by simp at hle1 ⊢; omega) rfl ?_
    intro a5 c5 ha5
    refine go ?_
    have e2 : (b ++ (ss.take (i + 1)).flatMap encS).length = (out ++ es).length + s.length := by rw [hs]; simp [Nat.add_assoc]
    refine ⟨(i + 1, a5, c5), ⟨rfl, ?_, trivial⟩, rfl, ⟨by dsimp only; omega, ?_⟩, by dsimp only; omega, Ent.app ?_⟩
    · dsimp only; rw [e2]; rfl
    · dsimp only; rw [e2]; exact ha5
    · dsimp only
      rw [hs, show (out ++ es ++ s).length = (out ++ es).length + s.length from List.length_append, show (out ++ es ++ s).map u8V = (out ++ es).map u8V ++ s.map u8V from List.map_append]
      exact ent
  · obtain rfl : i = ss.length := by omega
    rw [List.take_length] at *
    refine go ?_
    exact ⟨rfl, [_], ⟨Res.tmp rfl, trivial⟩, _, Ent.refl _, a, c, rfl, hsa, rfl⟩
end Go.SL

/- Layer 3 (ids): ids compared, walked. -/
namespace Go.SL
open Go.Proofs
set_option linter.unusedVariables false
set_option linter.unusedSimpArgs false
set_option linter.unusedSectionVars false
set_option maxRecDepth 10000
set_option maxHeartbeats 4000000
attribute [local irreducible] W WO SV OW SW Tri Ent Tk Has Src SrcK DA DB DP RdS Own OwnT MapH

abbrev cmpI (x y : BL) : Int := Lib.compareBytes x y
theorem cmpI_range : ∀ (x y : BL), cmpI x y = -1 ∨ cmpI x y = 0 ∨ cmpI x y = 1
  | [], [] => .inr (.inl rfl)
  | [], _ :: _ => .inl rfl
  | _ :: _, [] => .inr (.inr rfl)
  | a :: x, b :: y => by
    unfold cmpI Lib.compareBytes
    split
    · exact .inl rfl
    · split
      · exact .inr (.inr rfl)
      · exact cmpI_range x y
theorem by_Compare (a1 a2 : Option Addr) (n1 c1 n2 c2 : Nat) (x y : BL) (L : List HP) (r1 : RdS 1 a1 n1 (x.map u8V) L) (r2 : RdS 1 a2 n2 (y.map u8V) L) :
    TriE Try.prog 74 #[.slice a1 n1 c1, .slice a2 n2 c2] (fun v M => v = .int .i64 (cmpI x y) ∧ M = L) L := by
  refine Tri.of (N := 8) (args := [.slice a1 n1 c1, .slice a2 n2 c2]) Try.func74 rfl rfl rfl ?_
  refine go ?_
  refine WO.sv rfl ?_
  refine SV.compareB Try.func88 rfl rfl (by kernel_rfl) (by kernel_rfl) rfl r1 r2 ?_
  refine go ?_
  exact ⟨rfl, [_], ⟨Res.tmp rfl, trivial⟩, L, ent, rfl, rfl⟩
theorem id_compare (x y : BL) (hx : x.length = 32) (hy : y.length = 32) (L : List HP) :
    TriE Try.prog 58 #[.agg (x.map u8V).toArray, .agg (y.map u8V).toArray] (fun v M => v = .int .i64 (cmpI x y) ∧ M = L) L := by
  refine Tri.of (N := 8) (args := [.agg (x.map u8V).toArray, .agg (y.map u8V).toArray]) Try.func58 rfl rfl rfl ?_
  refine go ?_
  intro b1
  refine go ?_
  intro b2
  refine go ?_
  refine W.drawB #[0, 0, 3, 7] [] (pts b2 (.cells (y.map u8V).toArray 58) :: pts b1 (.cells (x.map u8V).toArray 58) :: L) rfl (by kernel_rfl) (by kernel_rfl) (by kernel_rfl) ent ?_
  refine go ?_
  refine DB.q (v := .slice (some ⟨b1, 0, none⟩) 32 32) rfl rfl hl (SV.cutArr (l := 0) (h := 32) rfl rfl rfl (by decide) (by decide) (fun off' ho => by obtain rfl := ho (.inl (by decide)); exact eqq)) ?_
  refine go ?_
  refine DB.q (v := .slice (some ⟨b2, 0, none⟩) 32 32) rfl rfl hl (SV.cutArr (l := 0) (h := 32) rfl rfl rfl (by decide) (by decide) (fun off' ho => by obtain rfl := ho (.inl (by decide)); exact eqq)) ?_
  refine go ?_
  refine DB.callE (vs := [.slice (some ⟨b1, 0, none⟩) 32 32, .slice (some ⟨b2, 0, none⟩) 32 32]) Try.func74 rfl rfl rfl rfl hl hl (by_Compare _ _ 32 32 32 32 x y _ (RdS.all (sz := 1) (n := 32) (by rw [List.length_map, hx])).cons (RdS.all (sz := 1) (n := 32) (by rw [List.length_map, hy]))) ?_
  rintro v M ⟨rfl, rfl⟩
  refine ⟨[], L, ent, ?_⟩
  refine go ?_
  refine ⟨L, ent, ?_⟩
  refine go ?_
  exact ⟨rfl, [_], ⟨Res.tmp rfl, trivial⟩, L, ent, rfl, rfl⟩
theorem id_Less (x y : BL) (hx : x.length = 32) (hy : y.length = 32) (L : List HP) :
    TriE Try.prog 69 #[.agg (x.map u8V).toArray, .agg (y.map u8V).toArray] (fun v M => v = .bool (decide (cmpI x y < 0)) ∧ M = L) L := by
  have hmx : (x.map u8V).length = 32 := by rw [List.length_map, hx]
  have hmy : (y.map u8V).length = 32 := by rw [List.length_map, hy]
  refine Tri.of (N := 9) (args := [.agg (x.map u8V).toArray, .agg (y.map u8V).toArray]) Try.func69 rfl rfl rfl ?_
  refine go ?_
  intro b1
  refine go ?_
  intro b2
  refine go ?_
  refine WO.sv rfl ?_
  refine SV.loadN (vs := x.map u8V) rfl (sub_full hmx) (by rw [hmx]; decide) ?_
  refine WO.sv rfl ?_
  refine SV.loadN (vs := y.map u8V) rfl (sub_full hmy) (by rw [hmy]; decide) ?_
  refine WO.callE (vs := [.agg (x.map u8V).toArray, .agg (y.map u8V).toArray]) Try.func58 rfl rfl rfl rfl (id_compare x y hx hy _) ?_
  rintro v M ⟨rfl, rfl⟩
  refine go ?_
  refine WO.sv rfl ?_
  refine SV.lss rfl rfl ?_
  refine go ?_
  exact ⟨rfl, [_], ⟨Res.tmp rfl, trivial⟩, L, ent, rfl, rfl⟩
end Go.SL

/- Layer 3 (ids): whether a row of ids rises, walked. -/
namespace Go.SL
open Go.Proofs
set_option linter.unusedVariables false
set_option linter.unusedSimpArgs false
set_option linter.unusedSectionVars false
set_option maxRecDepth 10000
set_option maxHeartbeats 4000000
theorem ent_conj {L : List HP} : Ent L [SL.conj L] := Ent.conj (by rw [List.append_nil]; exact Ent.refl _)
theorem unconj {L : List HP} : Ent [SL.conj L] L := fun h x => by have := has_conj.1 x; rwa [List.append_nil] at this
attribute [local irreducible] W WO SV OW SW Tri Ent Tk Has Src SrcK DA DB DP RdS Own OwnT MapH

def rowI (s : List BL) : List Value := s.flatMap (·.map u8V)
abbrev All32 (s : List BL) : Prop := ∀ i ∈ s, i.length = 32
theorem rowI_len {s : List BL} (h : All32 s) : (rowI s).length = s.length * 32 := by
  unfold rowI
  induction s with
  | nil => rfl
  | cons x s ih =>
    rw [List.flatMap_cons, List.length_append, ih fun i hi => h i (List.mem_cons_of_mem _ hi), List.length_map, h x List.mem_cons_self, List.length_cons]; omega
theorem rowI_app (s t : List BL) : rowI (s ++ t) = rowI s ++ rowI t := by unfold rowI; rw [List.flatMap_append]
theorem rowI_one (x : BL) : rowI [x] = x.map u8V := by simp [rowI]
theorem rowI_at {s : List BL} (h : All32 s) {j : Nat} (hj : j < s.length) : lsub (rowI s) (j * 32) 32 = (s.getD j []).map u8V := by
  rw [lsub_eq]
  have e : s = s.take j ++ (s[j] :: s.drop (j + 1)) := by rw [List.getElem_cons_drop, List.take_append_drop]
  have e1 : rowI s = rowI (s.take j) ++ (s[j].map u8V ++ rowI (s.drop (j + 1))) := by
    conv => lhs; rw [e]
    rw [rowI_app]; rfl
  have l1 : (rowI (s.take j)).length = j * 32 := by rw [rowI_len fun i hi => h i (List.mem_of_mem_take hi), List.length_take, Nat.min_eq_left (by omega)]
  have l2 : (s[j].map u8V).length = 32 := by rw [List.length_map]; exact h _ (List.getElem_mem hj)
  rw [e1, ← l1, List.drop_left, ← l2, List.take_left, List.getD_eq_getElem?_getD, List.getElem?_eq_getElem hj]; rfl
theorem getD32 {s : List BL} (h : All32 s) {j : Nat} (hj : j < s.length) : (s.getD j []).length = 32 := by
  rw [List.getD_eq_getElem?_getD, List.getElem?_eq_getElem hj]; exact h _ (List.getElem_mem hj)
def rtN (s : List BL) : Nat → Bool
  | 0 => true
  | i + 1 => rtN s i && (i == 0 || decide (cmpI (s.getD (i - 1) []) (s.getD i []) < 0))
def rightF (s : List BL) : Bool := rtN s s.length
theorem rtN_false {s : List BL} {i : Nat} (h : rtN s i = false) : ∀ n, i ≤ n → rtN s n = false := by
  intro n hn
  induction n with
  | zero => obtain rfl : i = 0 := by omega
            exact h
  | succ n ih =>
    by_cases e : i = n + 1
    · subst e; exact h
    · unfold rtN; rw [ih (by omega)]; rfl
theorem id_Right (a : Option Addr) (c : Nat) (s : List BL) (L : List HP) (h32 : All32 s) (hs : s.length < 1000000) (r : RdS 32 a s.length (rowI s) L) :
    TriE Try.prog 50 #[.slice a s.length c] (fun v M => v = .bool (rightF s) ∧ M = L) L := by
  refine Tri.of (N := 25) (args := [.slice a s.length c]) Try.func50 rfl rfl rfl ?_
  refine go ?_
  refine W.loopS 33554380 rfl (fun i : Nat => [(6, .int .i64 (i : Int))]) (fun _ => L) (fun i => i ≤ s.length ∧ rtN s i = true) (fun i => s.length - i) 0 ⟨rfl, trivial⟩ ⟨Nat.zero_le _, rfl⟩ (Ent.app ent) ?_
  rintro i bg ⟨hi, ht⟩
  dsimp only at hi ht ⊢
  by_cases h9 : i < s.length
  · have hn : rtN s (i + 1) = (rtN s i && (i == 0 || decide (cmpI (s.getD (i - 1) []) (s.getD i []) < 0))) := rfl
    rw [ht, Bool.true_and] at hn
    obtain ⟨b, o, rfl⟩ := r.at (by omega)
    by_cases h0 : i = 0
    · subst h0
      refine go ?_
      refine W.drawB #[0, 1, 3, 7, 7, 23, 63, 127, 7, 7, 775, 1799, 4095, 8191, 16383] [] L rfl (by kernel_rfl) (by kernel_rfl) (by kernel_rfl) ent ?_
      refine go ?_
      refine ⟨L, ent, ?_⟩
      refine go ?_
      exact ⟨1, ⟨rfl, trivial⟩, rfl, ⟨h9, hn⟩, by omega, Ent.app ent⟩
    · have g1 := rowI_at h32 (j := i - 1) (by omega)
      have g2 := rowI_at h32 h9
      have l1 := getD32 h32 (j := i - 1) (by omega)
      have l2 := getD32 h32 h9
      have hrl := rowI_len h32
      rw [show (i == 0) = false by simpa using h0, Bool.false_or] at hn
      generalize s.getD (i - 1) [] = x at *
      generalize s.getD i [] = y at *
      refine go ?_
      refine W.drawB #[0, 1, 3, 7, 7, 23, 63, 127, 7, 7, 775, 1799, 4095, 8191, 16383] [SL.conj L] [] rfl (by kernel_rfl) (by kernel_rfl) (by kernel_rfl) ent_conj ?_
      refine go ?_
      refine DB.q (v := .agg (x.map u8V).toArray) rfl rfl hl (SV.loadRN (k := 32) (vs := x.map u8V) ((i - 1) * 32) rfl (RdS.ent unconj r) (by omega) (by decide) (by rw [hrl]; omega) g1 eqq) ?_
      refine go ?_
      refine DB.q (v := .agg (y.map u8V).toArray) rfl rfl hl (SV.loadRN (k := 32) (vs := y.map u8V) (i * 32) rfl (RdS.ent unconj r) (by omega) (by decide) (by rw [hrl]; omega) g2 eqq) ?_
      refine go ?_
      refine DB.callE (vs := [.agg (x.map u8V).toArray, .agg (y.map u8V).toArray]) Try.func69 rfl rfl rfl rfl hl hl (id_Less x y l1 l2 _) ?_
      rintro v M ⟨rfl, rfl⟩
      refine ⟨[], [], ent, ?_⟩
      cases hd : decide (cmpI x y < 0) with
      | true =>
        rw [hd] at hn
        refine go ?_
        refine ⟨L, unconj, ?_⟩
        refine go ?_
        exact ⟨i + 1, ⟨rfl, trivial⟩, rfl, ⟨h9, hn⟩, by omega, Ent.app ent⟩
      | false =>
        rw [hd] at hn
        refine go ?_
        refine ⟨L, unconj, ?_⟩
        refine go ?_
        exact ⟨rfl, [_], ⟨Res.tmp rfl, trivial⟩, L, ent, congrArg Value.bool (rtN_false hn _ h9).symm, rfl⟩
  · obtain rfl : i = s.length := by omega
    refine go ?_
    exact ⟨rfl, [_], ⟨Res.tmp rfl, trivial⟩, L, ent, congrArg Value.bool ht.symm, rfl⟩
end Go.SL

/- Layer 3 (ids): rows of ids are cloned and sorted, walked. -/
namespace Go.SL
open Go.Proofs
set_option linter.unusedVariables false
set_option linter.unusedSimpArgs false
set_option linter.unusedSectionVars false
set_option maxRecDepth 10000
set_option maxHeartbeats 4000000
def OI (a : Option Addr) (c : Nat) (s : List BL) : HP := Own 58 32 (.slice a s.length c) s.length (rowI s)
theorem rowI_cell (s : List BL) : (rowI s).all isCell = true := by
  rw [List.all_eq_true]
  intro v hv
  unfold rowI at hv
  obtain ⟨x, _, hx⟩ := List.mem_flatMap.1 hv
  obtain ⟨y, _, rfl⟩ := List.mem_map.1 hx
  rfl
theorem rowI_set {s : List BL} (h : All32 s) {j : Nat} (hj : j < s.length) {x : BL} (hx : x.length = 32) : lput (rowI s) (j * 32) (x.map u8V) = rowI (s.set j x) := by
  have e : s = s.take j ++ (s[j] :: s.drop (j + 1)) := by rw [List.getElem_cons_drop, List.take_append_drop]
  have e1 : rowI s = rowI (s.take j) ++ (s[j].map u8V ++ rowI (s.drop (j + 1))) := by
    conv => lhs; rw [e]
    rw [rowI_app]; rfl
  have l1 : (rowI (s.take j)).length = j * 32 := by rw [rowI_len fun i hi => h i (List.mem_of_mem_take hi), List.length_take, Nat.min_eq_left (by omega)]
  rw [List.set_eq_take_append_cons_drop, if_pos hj, e1, ← l1, lput_mid3 _ _ _ _ (by rw [List.length_map, List.length_map, hx, h _ (List.getElem_mem hj)]), rowI_app]
  rfl
theorem All32.set {s : List BL} (h : All32 s) {j : Nat} {x : BL} (hx : x.length = 32) : All32 (s.set j x) := fun i hi => by
  rcases List.mem_or_eq_of_mem_set hi with h1 | h1
  · exact h i h1
  · subst h1; exact hx
/-- Two that stand side by side change places. -/
def swp (s : List BL) (j : Nat) : List BL := (s.set (j + 1) (s.getD j [])).set j (s.getD (j + 1) [])
@[simp] theorem swp_len (s : List BL) (j : Nat) : (swp s j).length = s.length := by simp [swp]
def insJ : Nat → List BL → List BL
  | 0, s => s
  | j + 1, s => if cmpI (s.getD (j + 1) []) (s.getD j []) < 0 then insJ j (swp s j) else s
@[simp] theorem insJ_len : ∀ (j : Nat) (s : List BL), (insJ j s).length = s.length
  | 0, s => rfl
  | j + 1, s => by
    unfold insJ
    split
    · rw [insJ_len]; simp
    · rfl
def insS (s : List BL) : Nat → List BL
  | 0 => s
  | k + 1 => insJ (k + 1) (insS s k)
@[simp] theorem insS_len (s : List BL) : ∀ k, (insS s k).length = s.length
  | 0 => rfl
  | k + 1 => by unfold insS; rw [insJ_len, insS_len s k]
/-- A row, sorted by insertion. -/
def sortF (s : List BL) : List BL := insS s (s.length - 1)
@[simp] theorem sortF_len (s : List BL) : (sortF s).length = s.length := insS_len s _
theorem All32.swp {s : List BL} (h : All32 s) {j : Nat} (hj : j + 1 < s.length) : All32 (swp s j) := (h.set (getD32 h (by omega))).set (getD32 h hj)
theorem All32.insJ : ∀ (j : Nat) {s : List BL}, All32 s → j < s.length → All32 (insJ j s)
  | 0, s, h, _ => h
  | j + 1, s, h, hj => by
    unfold SL.insJ
    split
    · exact All32.insJ j (h.swp hj) (by rw [swp_len]; omega)
    · exact h
theorem All32.insS {s : List BL} (h : All32 s) : ∀ k, (k = 0 ∨ k < s.length) → All32 (insS s k)
  | 0, _ => h
  | k + 1, hk => by
    unfold SL.insS
    exact All32.insJ _ (All32.insS h k (by omega)) (by rw [insS_len]; omega)
theorem All32.sortF {s : List BL} (h : All32 s) : All32 (sortF s) := h.insS _ (by omega)
attribute [local irreducible] W WO SV OW SW Tri Ent Tk Has Src SrcK DA DB DP RdS Own OwnT MapH
theorem sl_CloneI (a : Option Addr) (c : Nat) (s : List BL) (L : List HP) (hn : s.length ≤ 1000000) (h32 : All32 s) (r : RdS 32 a s.length (rowI s) L) :
    TriE Try.prog 37 #[.slice a s.length c] (fun v M => ∃ a' c', v = .slice a' s.length c' ∧ SomeA a' s.length ∧ M = OI a' c' s :: L) L := by
  refine Tri.of (N := 8) (args := [.slice a s.length c]) Try.func37 rfl rfl rfl ?_
  cases a with
  | none =>
    have h0 : s.length = 0 := Classical.byContradiction fun h0 => by obtain ⟨b, off, e⟩ := r.at h0; cases e
    have hx : s = [] := List.length_eq_zero_iff.1 h0
    subst hx
    refine go ?_
    exact ⟨rfl, [_], ⟨Res.tmp rfl, trivial⟩, OI none 0 [] :: L, by unfold OI; exact Ent.ownNil (Ent.refl _), none, 0, rfl, fun h => absurd rfl h, rfl⟩
  | some a =>
    refine go ?_
    refine WO.sv rfl ?_
    refine SV.lit0 ?_
    intro b1
    refine go ?_
    refine WO.ent (ent_own (sz := 32) (n := 0) rfl) ?_
    refine WO.sv rfl ?_
    refine SV.append rfl rfl rfl tk (RdS.src r) (by rw [r.len]) (rowI_cell s) (by omega) rfl ?_
    intro a' c' ha'
    rw [Nat.zero_add, List.nil_append] at *
    refine go ?_
    exact ⟨rfl, [_], ⟨Res.tmp rfl, trivial⟩, OI a' c' s :: L, by unfold OI; exact ent, a', c', rfl, ha', rfl⟩
theorem sl_CloneJ (a : Option Addr) (c : Nat) (s : List BL) (L : List HP) (hn : s.length ≤ 1000000) (h32 : All32 s) (r : RdS 32 a s.length (rowI s) L) :
    TriE Try.prog 56 #[.slice a s.length c] (fun v M => ∃ a' c', v = .slice a' s.length c' ∧ SomeA a' s.length ∧ M = OI a' c' s :: L) L := by
  refine Tri.of (N := 8) (args := [.slice a s.length c]) Try.func56 rfl rfl rfl ?_
  cases a with
  | none =>
    have h0 : s.length = 0 := Classical.byContradiction fun h0 => by obtain ⟨b, off, e⟩ := r.at h0; cases e
    have hx : s = [] := List.length_eq_zero_iff.1 h0
    subst hx
    refine go ?_
    exact ⟨rfl, [_], ⟨Res.tmp rfl, trivial⟩, OI none 0 [] :: L, by unfold OI; exact Ent.ownNil (Ent.refl _), none, 0, rfl, fun h => absurd rfl h, rfl⟩
  | some a =>
    refine go ?_
    refine WO.sv rfl ?_
    refine SV.lit0 ?_
    intro b1
    refine go ?_
    refine WO.ent (ent_own (sz := 32) (n := 0) rfl) ?_
    refine WO.sv rfl ?_
    refine SV.append rfl rfl rfl tk (RdS.src r) (by rw [r.len]) (rowI_cell s) (by omega) rfl ?_
    intro a' c' ha'
    rw [Nat.zero_add, List.nil_append] at *
    refine go ?_
    exact ⟨rfl, [_], ⟨Res.tmp rfl, trivial⟩, OI a' c' s :: L, by unfold OI; exact ent, a', c', rfl, ha', rfl⟩
theorem RdS.OI {a : Option Addr} {c : Nat} {s : List BL} {L : List HP} (h : All32 s) (ha : SomeA a s.length) : RdS 32 a s.length (rowI s) (OI a c s :: L) := by
  unfold SL.OI; exact RdS.own Tk.here ha (rowI_len h)
theorem sl_insert (b c : Nat) (s0 : List BL) (L : List HP) (h32 : All32 s0) (h1 : 1 ≤ s0.length) (hn : s0.length ≤ 1000000) :
    TriE Try.prog 79 #[.slice (some ⟨b, 0, none⟩) s0.length c, .int .i64 0, .int .i64 s0.length, .func (.func 58) #[] #[]] (fun v M => v = .tuple #[] ∧ M = OI (some ⟨b, 0, none⟩) c (sortF s0) :: L) (OI (some ⟨b, 0, none⟩) c s0 :: L) := by
  refine Tri.of (N := 53) (args := [.slice (some ⟨b, 0, none⟩) s0.length c, .int .i64 0, .int .i64 s0.length, .func (.func 58) #[] #[]]) Try.func79 rfl rfl rfl ?_
  refine go ?_
  refine W.loopS 9007199254737664 rfl (fun k : Nat => [(8, .int .i64 ((k + 1 : Nat) : Int))]) (fun k => OI (some ⟨b, 0, none⟩) c (insS s0 k) :: L) (fun k => k + 1 ≤ s0.length) (fun k => s0.length - k) 0 ⟨rfl, trivial⟩ h1 (Ent.app ent) ?_
  intro k bg hk
  try dsimp only at hk ⊢
  by_cases h9 : k + 1 < s0.length
  · have hk32 := h32.insS k (by omega)
    have hkl := insS_len s0 k
    have hnx : insS s0 (k + 1) = insJ (k + 1) (insS s0 k) := rfl
    generalize insS s0 k = s at *
    refine go ?_
    refine W.loopS 9007199254479360 rfl (fun q : Nat × List BL => [(9, .int .i64 (q.1 : Int))]) (fun q => OI (some ⟨b, 0, none⟩) c q.2 :: L) (fun q => q.1 ≤ k + 1 ∧ All32 q.2 ∧ q.2.length = s0.length ∧ insJ q.1 q.2 = insJ (k + 1) s) (fun q => q.1) (k + 1, s) ⟨rfl, trivial⟩ ⟨Nat.le_refl _, hk32, hkl, rfl⟩ (Ent.app ent) ?_
    clear hk32 hkl
    rintro ⟨j, s⟩ bg2 ⟨hj, hs32, hsl, he⟩
    dsimp only at hj hs32 hsl he ⊢
    cases j with
    | zero =>
      rw [← hnx] at he
      have he' : s = insS s0 (k + 1) := he
      subst he'
      refine go ?_
      refine W.drawB #[0, 0, 3, 7, 15, 15, 15, 111, 239, 15, 15, 1039, 3599, 7695, 16383, 32767, 65535] [] (OI (some ⟨b, 0, none⟩) c (insS s0 (k + 1)) :: L) rfl (by kernel_rfl) (by kernel_rfl) (by kernel_rfl) ent ?_
      refine go ?_
      refine ⟨OI (some ⟨b, 0, none⟩) c (insS s0 (k + 1)) :: L, ent, ?_⟩
      refine go ?_
      exact ⟨k + 1, ⟨rfl, trivial⟩, rfl, by omega, by omega, Ent.app ent⟩
    | succ j =>
      have g1 := rowI_at hs32 (j := j) (by omega)
      have g2 := rowI_at hs32 (j := j + 1) (by omega)
      have l1 := getD32 hs32 (j := j) (by omega)
      have l2 := getD32 hs32 (j := j + 1) (by omega)
      have hrl := rowI_len hs32
      have hsw : swp s j = (s.set (j + 1) (s.getD j [])).set j (s.getD (j + 1) []) := rfl
      have hst : insJ (j + 1) s = if cmpI (s.getD (j + 1) []) (s.getD j []) < 0 then insJ j (swp s j) else s := rfl
      have hw32 := hs32.swp (j := j) (by omega)
      have hwl : (swp s j).length = s0.length := by rw [swp_len, hsl]
      rw [hst] at he
      clear hst
      have p1 := rowI_set hs32 (j := j + 1) (by omega) l1
      have m32 := hs32.set (j := j + 1) l1
      have p2 := rowI_set m32 (j := j) (by rw [List.length_set]; omega) l2
      have hml := rowI_len m32
      rw [← hsw] at p2
      rw [List.length_set] at hml
      generalize hx : s.getD j [] = x at *
      generalize hy : s.getD (j + 1) [] = y at *
      have hwj : IntKind.wrap .i64 (((j + 1 : Nat) : Int) - 1) = ((j : Nat) : Int) := by rw [show ((j + 1 : Nat) : Int) - 1 = (j : Int) by omega]; exact wI
      have rd : ∀ X, RdS 32 (some ⟨b, 0, none⟩) s.length (rowI s) (OI (some ⟨b, 0, none⟩) c s :: X) := fun X => RdS.OI hs32 (fun _ => ⟨b, rfl⟩)
      refine go ?_
      refine W.drawB #[0, 0, 3, 7, 15, 15, 15, 111, 239, 15, 15, 1039, 3599, 7695, 16383, 32767, 65535] [OI (some ⟨b, 0, none⟩) c s] L rfl (by kernel_rfl) (by kernel_rfl) (by kernel_rfl) ent ?_
      refine go ?_
      refine DB.q (v := .agg (y.map u8V).toArray) rfl rfl hl (SV.loadRN (k := 32) (vs := y.map u8V) ((j + 1) * 32) rfl (rd _) (by omega) (by decide) (by rw [hrl]; omega) g2 eqq) ?_
      refine go ?_
      refine DB.q (v := .agg (x.map u8V).toArray) rfl rfl hl (SV.loadRN (k := 32) (vs := x.map u8V) (j * 32) rfl (rd _) (by omega) (by decide) (by rw [hrl]; omega) g1 eqq) ?_
      refine go ?_
      refine DB.callW (vs := [.agg (y.map u8V).toArray, .agg (x.map u8V).toArray]) (cs := []) rfl Try.func58 rfl rfl rfl rfl hl hl (id_compare y x l2 l1 _) ?_
      rintro v M ⟨rfl, rfl⟩
      refine ⟨[], L, ent, ?_⟩
      refine go ?_
      by_cases hc : cmpI y x < 0
      · rw [if_pos hc] at he
        refine DB.q (v := .bool true) rfl rfl hl (SV.lssT rfl rfl hc eqq) ?_
        refine go ?_
        refine ⟨OI (some ⟨b, 0, none⟩) c s :: L, ent, ?_⟩
        refine go ?_
        refine W.drawP #[0, 0, 0, 0, 8, 0, 0, 64, 224, 480, 0, 0, 3072, 7168, 16355, 32739, 65535, 131071] rfl (by kernel_rfl) (by kernel_rfl) (by kernel_rfl) ?_
        refine DP.n (v := .slice (some ⟨b, 0, none⟩) s0.length c) rfl rfl (SV.move rfl eqq) ?_
        refine DP.n (v := .int .i64 ((j + 1 : Nat) : Int)) rfl rfl (SV.move rfl eqq) ?_
        refine DP.n (v := .slice (some ⟨b, 0, none⟩) s0.length c) rfl rfl (SV.move rfl eqq) ?_
        refine DP.n (v := .int .i64 ((j + 1 : Nat) : Int)) rfl rfl (SV.move rfl eqq) ?_
        refine DP.n (v := .int .i64 ((j : Nat) : Int)) rfl rfl (SV.sub (a := ((j + 1 : Nat) : Int)) (b := 1) rfl rfl (hwj) eqq) ?_
        refine DP.n (v := .slice (some ⟨b, 0, none⟩) s0.length c) rfl rfl (SV.move rfl eqq) ?_
        refine DP.n (v := .int .i64 ((j + 1 : Nat) : Int)) rfl rfl (SV.move rfl eqq) ?_
        refine DP.n (v := .int .i64 ((j : Nat) : Int)) rfl rfl (SV.sub (a := ((j + 1 : Nat) : Int)) (b := 1) rfl rfl (hwj) eqq) ?_
        refine DP.n (v := .pointer (some ⟨b, 0 + (j : Int).toNat * 32, none⟩)) rfl rfl (SV.indexAddr rfl rfl (by omega) (by omega) eqq) ?_
        refine DP.q (v := .agg (x.map u8V).toArray) rfl (by kernel_rfl) rfl (SV.loadRN (k := 32) (vs := x.map u8V) (j * 32) rfl (rd _) (by omega) (by decide) (by rw [hrl]; omega) g1 eqq) ?_
        refine DP.n (v := .slice (some ⟨b, 0, none⟩) s0.length c) rfl rfl (SV.move rfl eqq) ?_
        refine DP.n (v := .int .i64 ((j + 1 : Nat) : Int)) rfl rfl (SV.move rfl eqq) ?_
        refine DP.n (v := .pointer (some ⟨b, 0 + (((j + 1 : Nat) : Int)).toNat * 32, none⟩)) rfl rfl (SV.indexAddr rfl rfl (by omega) (by omega) eqq) ?_
        refine DP.q (v := .agg (y.map u8V).toArray) rfl (by kernel_rfl) rfl (SV.loadRN (k := 32) (vs := y.map u8V) ((j + 1) * 32) rfl (rd _) (by omega) (by decide) (by rw [hrl]; omega) g2 eqq) ?_
        refine DP.n (v := .pointer (some ⟨b, 0 + (((j + 1 : Nat) : Int)).toNat * 32, none⟩)) rfl rfl (SV.indexAddr rfl rfl (by omega) (by omega) eqq) ?_
        refine DP.act rfl rfl rfl ?_
        refine SV.storeON (k := 32) (v := .agg (x.map u8V).toArray) (vs := x.map u8V) ((j + 1) * 32) rfl (show Tk _ (Own 58 32 (.slice (some ⟨b, 0, none⟩) s.length c) s.length (rowI s)) _ from by unfold OI; exact Tk.here) (by omega) rfl Cel.agg (by rw [List.length_map, l1]) (by decide) (u8_cell _) (by rw [hrl]; omega) p1 ?_
        refine DP.n (v := .pointer (some ⟨b, 0 + (j : Int).toNat * 32, none⟩)) rfl rfl (SV.indexAddr rfl rfl (by omega) (by omega) eqq) ?_
        refine DP.act rfl rfl rfl ?_
        refine SV.storeON (k := 32) (v := .agg (y.map u8V).toArray) (vs := y.map u8V) (j * 32) rfl Tk.here (by omega) rfl Cel.agg (by rw [List.length_map, l2]) (by decide) (u8_cell _) (by rw [hml]; omega) p2 ?_
        refine DP.nil ?_
        refine ⟨OI (some ⟨b, 0, none⟩) c (swp s j) :: L, by unfold OI; rw [swp_len]; exact ent, ?_⟩
        refine go ?_
        refine ⟨(j, swp s j), ⟨?_, trivial⟩, rfl, ⟨by dsimp only; omega, hw32, hwl, he⟩, by dsimp only; omega, Ent.app ?_⟩
        · show Value.int _ _ = Value.int _ _
          congr 1; dsimp only; omega
        · exact ent
      · rw [if_neg hc, ← hnx] at he
        subst he
        refine DB.q (v := .bool false) rfl rfl hl (SV.lssF rfl rfl (by omega) eqq) ?_
        refine go ?_
        refine ⟨OI (some ⟨b, 0, none⟩) c (insS s0 (k + 1)) :: L, ent, ?_⟩
        refine go ?_
        exact ⟨k + 1, ⟨rfl, trivial⟩, rfl, by omega, by omega, Ent.app ent⟩
  · obtain rfl : k = s0.length - 1 := by omega
    refine go ?_
    exact ⟨rfl, [], trivial, _, ent, rfl, rfl⟩
theorem sl_pdq (b c m : Nat) (s : List BL) (L : List HP) (h32 : All32 s) (h1 : 1 ≤ s.length) (hn : s.length ≤ 12) :
    TriE Try.prog 72 #[.slice (some ⟨b, 0, none⟩) s.length c, .int .i64 0, .int .i64 s.length, .int .i64 m, .func (.func 58) #[] #[]] (fun v M => v = .tuple #[] ∧ M = OI (some ⟨b, 0, none⟩) c (sortF s) :: L) (OI (some ⟨b, 0, none⟩) c s :: L) := by
  refine Tri.of (N := 148) (args := [.slice (some ⟨b, 0, none⟩) s.length c, .int .i64 0, .int .i64 s.length, .int .i64 m, .func (.func 58) #[] #[]]) Try.func72 rfl rfl rfl ?_
  refine go ?_
  refine W.loopS 356811923176489970264571492362373784095685646 rfl (fun u : Unit => [(0, .slice (some ⟨b, 0, none⟩) s.length c), (1, .int .i64 0), (2, .int .i64 s.length), (4, .func (.func 58) #[] #[])]) (fun _ => OI (some ⟨b, 0, none⟩) c s :: L) (fun _ => True) (fun _ => 0) () ⟨rfl, rfl, rfl, rfl, trivial⟩ trivial (Ent.app ent) ?_
  intro u bg _
  refine go ?_
  refine WO.callE (vs := [.slice (some ⟨b, 0, none⟩) s.length c, .int .i64 0, .int .i64 s.length, .func (.func 58) #[] #[]]) Try.func79 rfl rfl rfl rfl (sl_insert b c s L h32 h1 (by omega)) ?_
  rintro v M ⟨rfl, rfl⟩
  refine go ?_
  exact ⟨rfl, [], trivial, _, ent, rfl, rfl⟩
end Go.SL
