/- Layer 10 (journal): a device gets an empty log, walked. -/
import Derived.Test.YtcjpiceklicmoaaGreatDoorSlG
import Derived.Test.YtcjpiceklicmoaaGreatDoorSlI
import Derived.Test.YtcjpiceklicmoaaGreatDoorSlM
import Derived.Test.YtcjpiceklicmoaaGreatDoorSlW
import Derived.Test.YtcjpiceklicmoaaGreatDoorSlY
import Derived.Test.YtcjpiceklicmoaaGreatDoorTy
import Derived.Test.YtcjpiceklicmoaaGreatDoorZ1
import Derived.Test.YtcjpiceklicmoaaGreatDoorZ2
namespace Go.SL
open Go.Proofs
set_option linter.unusedVariables false
set_option linter.unusedSimpArgs false
set_option linter.unusedSectionVars false
set_option maxRecDepth 10000
set_option maxHeartbeats 4000000
def hd1 (blocks : Int) : Hd := ⟨1, 1, 0, 1, blocks⟩
def fmtW : Nat → Dv → Nat → Dv × Int
  | 0, d, _ => (d, 0)
  | f + 1, d, n => if (d.put (n : Nat) zero256).2 ≠ 0 then d.put (n : Nat) zero256 else fmtW f (d.put (n : Nat) zero256).1 (n + 1)
def fmtS (d : Dv) (blocks : Int) : Dv × Int :=
  if d.kept.length = 0 then (d, 1) else if HdR (hd1 blocks) d.kept.length then andD (fmtW (d.kept.length - (2 + blocks.toNat)) d (2 + blocks.toNat)) fun d => andD d.flush fun d => saveS d (hd1 blocks) else (d, 2)
theorem put_kept (d : Dv) (n : Int) (s : Byt) : (d.put n s).1.kept = d.kept := by
  unfold Dv.put
  split <;> simp
theorem flush_kept (d : Dv) (ok : d.Ok) : d.flush.1.kept.length = d.kept.length := by
  have h := Dv.flush_ok ok
  have h1 := h.now
  have : d.flush.1.now = d.now := by unfold Dv.flush; split <;> simp
  rw [this, ok.now] at h1
  exact h1.symm
theorem flush_waits (d : Dv) : d.flush.1.waits.length ≤ d.waits.length := by
  unfold Dv.flush
  split
  · simp
  · simp
attribute [local irreducible] W WO SV OW SW Tri Ent Tk Has Src SrcK DA DB RdS Own
theorem jr_FormatN (n : Int) (L : List HP) : TriE Tryz.prog 63 #[.pointer none, .int .i64 n] (fun v M => v = .int .i64 1 ∧ M = L) L := by
  refine Tri.of (N := 45) (args := [.pointer none, .int .i64 n]) Tryz.func63 rfl rfl rfl ?_
  refine go ?_
  refine WO.callE (vs := [.pointer none]) Tryz.func72 rfl rfl rfl rfl (dv_Len0 _) ?_
  rintro v M ⟨rfl, rfl⟩
  refine go ?_
  exact ⟨rfl, [_], ⟨Res.tmp rfl, trivial⟩, _, ent, rfl, rfl⟩
theorem jr_Format (db : Nat) (d : Dv) (n : Int) (R : List HP) (ok : d.Ok) (hw : d.waits.length ≤ 10000) (hk : d.kept.length ≠ 0) (hn : -9223372036854775808 ≤ n ∧ n ≤ 9223372036854775807) :
    TriE Tryz.prog 63 #[.pointer (some ⟨db, 0, none⟩), .int .i64 n] (fun v M => v = .int .i64 (fmtS d n).2 ∧ M = DevH db (fmtS d n).1 :: R) (DevH db d :: R) := by
  have hsz := ok.size
  have hS : fmtS d n = if d.kept.length = 0 then (d, 1) else if HdR (hd1 n) d.kept.length then andD (fmtW (d.kept.length - (2 + n.toNat)) d (2 + n.toNat)) fun d => andD d.flush fun d => saveS d (hd1 n) else (d, 2) := rfl
  rw [if_neg hk] at hS
  refine Tri.of (N := 45) (args := [.pointer (some ⟨db, 0, none⟩), .int .i64 n]) Tryz.func63 rfl rfl rfl ?_
  refine go ?_
  refine WO.callE (vs := [.pointer (some ⟨db, 0, none⟩)]) Tryz.func72 rfl rfl rfl rfl (dv_LenH db d R) ?_
  rintro v M ⟨rfl, rfl⟩
  refine go ?_
  refine WO.callE (vs := [.int .i64 n]) Tryz.func117 rfl rfl rfl rfl (jr_first n _) ?_
  rintro v M ⟨rfl, rfl⟩
  refine go ?_
  refine WO.callE (vs := [.pointer (some ⟨db, 0, none⟩)]) Tryz.func72 rfl rfl rfl rfl (dv_LenH db d R) ?_
  rintro v M ⟨rfl, rfl⟩
  refine go ?_
  refine WO.callE (vs := [.agg (hd1 n).L.toArray, .int .i64 d.kept.length]) Tryz.func118 rfl rfl rfl rfl (h9_Right (hd1 n) d.kept.length _ (by omega)) ?_
  rintro v M ⟨rfl, rfl⟩
  by_cases hr : HdR (hd1 n) d.kept.length
  rotate_left
  · rw [if_neg hr] at hS
    rw [hS, decide_eq_false hr]
    refine go ?_
    exact ⟨rfl, [_], ⟨Res.tmp rfl, trivial⟩, _, ent, rfl, rfl⟩
  have hr' := hr
  unfold HdR hd1 at hr'
  dsimp only at hr'
  rw [if_pos hr] at hS
  rw [decide_eq_true hr]
  obtain ⟨m, rfl⟩ : ∃ m : Nat, n = m := ⟨n.toNat, by omega⟩
  rw [show ((m : Nat) : Int).toNat = m from rfl] at hS
  refine go ?_
  refine WO.sv rfl ?_
  refine SV.makeSlice rfl (m := 256) rfl (by decide) (by decide) ?_
  intro bz
  refine go ?_
  refine W.ent (M := OS (some ⟨bz, 0, none⟩) 256 zero256 :: DevH db d :: R) (by unfold OS; exact (ent_own (sz := 1) (n := 256) (by simp)).trans ent) ?_
  generalize hF : fmtW (d.kept.length - (2 + m)) d (2 + m) = F at *
  refine W.loopS 68711088336 rfl (fun q : Nat × Dv => [(6, .int .i64 (q.1 : Int))]) (fun q => OS (some ⟨bz, 0, none⟩) 256 zero256 :: DevH db q.2 :: R)
    (fun q => 2 + m ≤ q.1 ∧ q.1 ≤ d.kept.length ∧ q.2.Ok ∧ q.2.kept.length = d.kept.length ∧ q.2.waits.length ≤ d.waits.length + q.1 ∧ fmtW (d.kept.length - q.1) q.2 q.1 = F) (fun q => d.kept.length - q.1) (2 + m, d) ⟨?_, trivial⟩ ⟨Nat.le_refl _, by dsimp only; omega, ok, rfl, by dsimp only; omega, hF⟩ (Ent.app ent) ?_
  · show Value.int _ _ = Value.int _ _
    congr 1
  clear ok
  rintro ⟨i, d1⟩ bg ⟨hi1, hi2, ok, hkl, hwl, he⟩
  dsimp only at hi1 hi2 ok hkl hwl he ⊢
  by_cases h9 : i < d.kept.length
  · obtain ⟨f, hf⟩ : ∃ f, d.kept.length - i = f + 1 := ⟨d.kept.length - i - 1, by omega⟩
    have hst : fmtW (f + 1) d1 i = if (d1.put (i : Nat) zero256).2 ≠ 0 then d1.put (i : Nat) zero256 else fmtW f (d1.put (i : Nat) zero256).1 (i + 1) := rfl
    rw [hf, hst] at he
    clear hst
    have ok2 := Dv.put_ok ok (i : Nat) zero256
    have hk2 := put_kept d1 (i : Nat) zero256
    have hw2 := put_waits d1 (i : Nat) zero256
    refine go ?_
    refine WO.callE (vs := [.pointer (some ⟨db, 0, none⟩)]) Tryz.func72 rfl rfl rfl rfl (TriE.ent (A := DevH db d1 :: OS (some ⟨bz, 0, none⟩) 256 zero256 :: R) ent (dv_LenH db d1 _)) ?_
    rintro v M ⟨rfl, rfl⟩
    rw [hkl]
    refine go ?_
    refine WO.callE (vs := [.pointer (some ⟨db, 0, none⟩), .int .i64 (i : Nat), .slice (some ⟨bz, 0, none⟩) zero256.length 256]) Tryz.func103 rfl rfl rfl rfl (dv_Write db d1 (i : Nat) (some ⟨bz, 0, none⟩) 256 zero256 _ ok (by simp [zero256]) (by omega) (OS.rd Tk.here (fun _ => ⟨bz, rfl⟩))) ?_
    rintro v M ⟨rfl, rfl⟩
    generalize d1.put (i : Nat) zero256 = q at *
    obtain ⟨d2, z⟩ := q
    dsimp only at he ok2 hk2 hw2 ⊢
    by_cases hz : z = 0
    · subst hz
      rw [if_neg (by simp)] at he
      refine go ?_
      refine ⟨(i + 1, d2), ⟨rfl, trivial⟩, rfl, ⟨by dsimp only; omega, by dsimp only; omega, ok2, by dsimp only; rw [hk2, hkl], by dsimp only; omega, ?_⟩, by dsimp only; omega, Ent.app ent⟩
      dsimp only
      rw [show d.kept.length - (i + 1) = f by omega]
      exact he
    · rw [if_pos hz] at he
      subst he
      have hS2 : fmtS d m = (d2, z) := by rw [hS]; unfold andD; rw [if_pos hz]
      rw [hS2]
      refine go ?_
      exact ⟨rfl, [_], ⟨Res.tmp rfl, trivial⟩, _, ent, rfl, rfl⟩
  · obtain rfl : i = d.kept.length := by omega
    rw [Nat.sub_self] at he
    have he' : F = (d1, 0) := he.symm
    subst he'
    have hS2 : fmtS d m = andD d1.flush fun d => saveS d (hd1 m) := by rw [hS]; unfold andD; rw [if_neg (by simp)]
    rw [hS2]
    have ok2 := Dv.flush_ok ok
    have hk2 := flush_kept d1 ok
    have hw2 := flush_waits d1
    refine go ?_
    refine WO.callE (vs := [.pointer (some ⟨db, 0, none⟩)]) Tryz.func72 rfl rfl rfl rfl (TriE.ent (A := DevH db d1 :: OS (some ⟨bz, 0, none⟩) 256 zero256 :: R) ent (dv_LenH db d1 _)) ?_
    rintro v M ⟨rfl, rfl⟩
    rw [hkl]
    refine go ?_
    refine WO.callE (vs := [.pointer (some ⟨db, 0, none⟩)]) Tryz.func104 rfl rfl rfl rfl (dv_Flush db d1 _ ok (by omega)) ?_
    rintro v M ⟨rfl, rfl⟩
    generalize d1.flush = q at *
    obtain ⟨d2, z⟩ := q
    dsimp only at ok2 hk2 hw2 ⊢
    by_cases hz : z = 0
    · subst hz
      rw [show andD (d2, 0) (fun d => saveS d (hd1 m)) = saveS d2 (hd1 m) from rfl]
      refine go ?_
      refine WO.callE (vs := [.int .i64 m]) Tryz.func117 rfl rfl rfl rfl (jr_first m _) ?_
      rintro v M ⟨rfl, rfl⟩
      refine WO.callE (vs := [.pointer (some ⟨db, 0, none⟩), .agg (hd1 m).L.toArray]) Tryz.func119 rfl rfl rfl rfl (h9_Save db d2 (hd1 m) _ ok2 (by omega) ⟨show (1 : Nat) < 18446744073709551616 by decide, show (1 : Nat) < 18446744073709551616 by decide, show (1 : Nat) < 18446744073709551616 by decide, show (-9223372036854775808 : Int) ≤ 0 ∧ (0 : Int) ≤ 9223372036854775807 by decide, by unfold hd1; dsimp only; omega⟩) ?_
      rintro v M ⟨rfl, rfl⟩
      generalize saveS d2 (hd1 m) = q2
      obtain ⟨d3, z3⟩ := q2
      refine go ?_
      exact ⟨rfl, [_], ⟨Res.tmp rfl, trivial⟩, DevH db d3 :: R, ent, rfl, rfl⟩
    · rw [show andD (d2, z) (fun d => saveS d (hd1 m)) = (d2, z) by unfold andD; rw [if_pos hz]]
      refine go ?_
      exact ⟨rfl, [_], ⟨Res.tmp rfl, trivial⟩, DevH db d2 :: R, ent, rfl, rfl⟩
end Go.SL

/- Layer 10 (journal): whether changes may be done, walked. -/
namespace Go.SL
open Go.Proofs
set_option linter.unusedVariables false
set_option linter.unusedSimpArgs false
set_option linter.unusedSectionVars false
set_option maxRecDepth 10000
set_option maxHeartbeats 4000000
theorem rangeAt {m : Nat} (g : Nat → List Value) (hg : ∀ i, (g i).length = m) : ∀ n i, i < n → lsub ((List.range n).flatMap g) (i * m) m = g i
  | 0, i, h => by omega
  | n + 1, i, h => by
    have hll : ((List.range n).flatMap g).length = n * m := by
      clear h
      induction n with
      | zero => simp
      | succ n ih => rw [List.range_succ, List.flatMap_append, List.length_append, ih]; simp [hg]; rw [Nat.add_mul]; omega
    rw [List.range_succ, List.flatMap_append, lsub_eq]
    by_cases e : i < n
    · have := rangeAt g hg n i e
      rw [lsub_eq] at this
      have h1 : i * m + m ≤ n * m := by rw [← Nat.succ_mul]; exact Nat.mul_le_mul_right _ e
      rw [List.drop_append_of_le_length (by omega), List.take_append_of_le_length (by rw [List.length_drop]; omega)]
      exact this
    · obtain rfl : i = n := by omega
      rw [← hll, List.drop_left]
      simp [List.take_of_length_le (Nat.le_of_eq (hg i))]
theorem rangeLen {m : Nat} (g : Nat → List Value) (hg : ∀ i, (g i).length = m) (n : Nat) : ((List.range n).flatMap g).length = n * m := by
  induction n with
  | zero => simp
  | succ n ih => rw [List.range_succ, List.flatMap_append, List.length_append, ih]; simp [hg]; rw [Nat.add_mul]; omega
/-- The cells of changes: numbers, and where their bytes lie. -/
def chV (cs : Chs) (f : Nat → Option Addr × Nat) (i : Nat) : List Value := [.int .i64 (cs.getD i (0, [])).1, .slice (f i).1 (cs.getD i (0, [])).2.length (f i).2]
def chRow (cs : Chs) (f : Nat → Option Addr × Nat) : List Value := (List.range cs.length).flatMap (chV cs f)
theorem chRow_len (cs : Chs) (f : Nat → Option Addr × Nat) : (chRow cs f).length = cs.length * 2 := by unfold chRow; exact rangeLen (chV cs f) (fun _ => rfl) _
theorem chRow_at (cs : Chs) (f : Nat → Option Addr × Nat) {i : Nat} (h : i < cs.length) : lsub (chRow cs f) (i * 2) 2 = chV cs f i := by unfold chRow; exact rangeAt (chV cs f) (fun _ => rfl) _ _ h
/-- Changes that can be read. -/
structure ChR (a : Option Addr) (cs : Chs) (f : Nat → Option Addr × Nat) (L : List HP) : Prop where
  row : RdS 2 a cs.length (chRow cs f) L
  bs : ∀ i, i < cs.length → RdS 1 (f i).1 (cs.getD i (0, [])).2.length ((cs.getD i (0, [])).2.map u8V) L
  lens : ∀ i, i < cs.length → (cs.getD i (0, [])).2.length ≤ 9223372036854775807
  ns : ∀ i, i < cs.length → -9223372036854775808 ≤ (cs.getD i (0, [])).1 ∧ (cs.getD i (0, [])).1 ≤ 9223372036854775807
  count : cs.length ≤ 1000000
theorem ChR.cons {a : Option Addr} {cs : Chs} {f : Nat → Option Addr × Nat} {L : List HP} {A : HP} (r : ChR a cs f L) : ChR a cs f (A :: L) := ⟨r.row.cons, fun i h => (r.bs i h).cons, r.lens, r.ns, r.count⟩
theorem ChR.ent {a : Option Addr} {cs : Chs} {f : Nat → Option Addr × Nat} {L M : List HP} (e : Ent L M) (r : ChR a cs f M) : ChR a cs f L := ⟨r.row.ent e, fun i h => (r.bs i h).ent e, r.lens, r.ns, r.count⟩
theorem take_map_succ {cs : Chs} {i : Nat} (h : i < cs.length) : (cs.take (i + 1)).map (·.1) = (cs.take i).map (·.1) ++ [(cs.getD i (0, [])).1] := by
  rw [List.take_succ_eq_append_getElem h, List.map_append, List.getD_eq_getElem?_getD, List.getElem?_eq_getElem h]; rfl
attribute [local irreducible] W WO SV OW SW Tri Ent Tk Has Src SrcK DA DB RdS Own MapH
theorem jr_right (lb db mb : Nat) (g : Lg) (d : Dv) (a : Option Addr) (c : Nat) (cs : Chs) (f : Nat → Option Addr × Nat) (R : List HP) (hk : d.kept.length ≤ 4096) (hlog : (g.log : Int) = g.hd.log) (hl3 : g.log + 2 ≤ d.kept.length) (r : ChR a cs f R) :
    TriE Tryz.prog 101 #[.pointer (some ⟨lb, 0, none⟩), .slice a cs.length c] (fun v M => v = .bool (chsR (homeN d g) cs) ∧ M = LgP lb db g mb :: DevH db d :: R) (LgP lb db g mb :: DevH db d :: R) := by
  have hcount := r.count
  have hhome : ((d.kept.length : Int) - 2 - g.hd.log) = (homeN d g : Nat) := by unfold homeN; omega
  refine Tri.of (N := 49) (args := [.pointer (some ⟨lb, 0, none⟩), .slice a cs.length c]) Tryz.func101 rfl rfl rfl ?_
  refine go ?_
  refine WO.sv rfl ?_
  refine SV.mkMap (enc := (Value.int .i64 : Int → Value)) ?_
  intro hb
  refine go ?_
  have hrl := chRow_len cs f
  refine W.loopS 2199023253648 rfl (fun q : Nat × List (Int × Value) => [(11, .int .i64 (q.1 : Int))]) (fun q => MapH hb (Value.int .i64) q.2 :: LgP lb db g mb :: DevH db d :: R)
    (fun q => q.1 ≤ cs.length ∧ goodN (homeN d g) cs q.1 = true ∧ ∀ k : Int, mget q.2 k = if k ∈ (cs.take q.1).map (·.1) then some (.bool true) else none) (fun q => cs.length - q.1) (0, []) ⟨rfl, trivial⟩ ⟨Nat.zero_le _, rfl, fun k => by simp [mget]⟩ (Ent.app ent) ?_
  rintro ⟨i, l⟩ bg ⟨hi, hgd, hml⟩
  dsimp only at hi hgd hml ⊢
  by_cases h9 : i < cs.length
  rotate_left
  · obtain rfl : i = cs.length := by omega
    have hR : chsR (homeN d g) cs = (decide (1 ≤ cs.length) && decide (cs.length ≤ 70)) := by unfold chsR; rw [hgd, Bool.true_and]
    rw [hR]
    by_cases c1 : 1 ≤ cs.length
    · rw [decide_eq_true c1, Bool.true_and]
      by_cases c2 : cs.length ≤ 70
      · rw [decide_eq_true c2]
        refine go ?_
        exact ⟨rfl, [_], ⟨Res.tmp rfl, trivial⟩, LgP lb db g mb :: DevH db d :: R, ent, rfl, rfl⟩
      · rw [decide_eq_false c2]
        refine go ?_
        exact ⟨rfl, [_], ⟨Res.tmp rfl, trivial⟩, LgP lb db g mb :: DevH db d :: R, ent, rfl, rfl⟩
    · rw [decide_eq_false c1, Bool.false_and]
      refine go ?_
      exact ⟨rfl, [_], ⟨Res.tmp rfl, trivial⟩, LgP lb db g mb :: DevH db d :: R, ent, rfl, rfl⟩
  have hrow := chRow_at cs f h9
  have hbs := r.bs i h9
  have hns := r.ns i h9
  have hts := take_map_succ h9
  have hst : goodN (homeN d g) cs (i + 1) = (goodN (homeN d g) cs i && !nowBad (homeN d g) cs i) := rfl
  have hnb : nowBad (homeN d g) cs i = (decide ((cs.getD i (0, [])).1 < 0) || decide ((homeN d g : Int) ≤ (cs.getD i (0, [])).1) || decide ((cs.getD i (0, [])).1 ∈ (cs.take i).map (·.1)) || decide ((cs.getD i (0, [])).2.length ≠ 256)) := rfl
  have hlen := r.lens i h9
  rw [hgd, Bool.true_and] at hst
  have hbad : nowBad (homeN d g) cs i = true → false = chsR (homeN d g) cs := fun h => by
    rw [h] at hst
    unfold chsR
    rw [goodN_false hst _ h9, Bool.false_and]
  have hmk := hml (cs.getD i (0, [])).1
  unfold chV at hrow
  generalize (cs.getD i (0, [])).1 = N at *
  generalize (cs.getD i (0, [])).2 = s at *
  obtain ⟨b9, o9, rfl⟩ := r.row.at (by omega)
  generalize homeN d g = hm at *
  refine go ?_
  refine WO.sv rfl ?_
  refine SV.loadRN (k := 2) (vs := [.int .i64 N, .slice (f i).1 s.length (f i).2]) (i * 2) rfl r.row.cons.cons.cons (by omega) (by decide) (by rw [hrl]; omega) hrow ?_
  refine go ?_
  intro b7
  refine go ?_
  by_cases c1 : N < 0
  · refine W.drawB #[0, 1, 3, 7, 15, 31, 15, 79, 255, 511, 1023, 2047, 2047, 6143, 16383, 32767, 65535, 131071, 262143, 524287, 1048575, 2097151] [pts b7 (.cells [.int .i64 N, .slice (f i).1 s.length (f i).2].toArray 125)] (MapH hb (Value.int .i64) l :: LgP lb db g mb :: DevH db d :: R) rfl (by kernel_rfl) (by kernel_rfl) (by kernel_rfl) ent ?_
    refine go ?_
    refine ⟨MapH hb (Value.int .i64) l :: LgP lb db g mb :: DevH db d :: R, ent, ?_⟩
    refine go ?_
    exact ⟨rfl, [_], ⟨Res.tmp rfl, trivial⟩, LgP lb db g mb :: DevH db d :: R, ent, congrArg Value.bool (hbad (by rw [hnb, decide_eq_true c1]; rfl)), rfl⟩
  refine W.drawB #[0, 1, 3, 7, 15, 31, 15, 79, 255, 511, 1023, 2047, 2047, 6143, 16383, 32767, 65535, 131071, 262143, 524287, 1048575, 2097151] [pts b7 (.cells [.int .i64 N, .slice (f i).1 s.length (f i).2].toArray 125), MapH hb (Value.int .i64) l] (LgP lb db g mb :: DevH db d :: R) rfl (by kernel_rfl) (by kernel_rfl) (by kernel_rfl) ent ?_
  refine go ?_
  refine DB.callE (vs := [.pointer (some ⟨lb, 0, none⟩)]) Tryz.func65 rfl rfl rfl rfl hl hl (TriE.ent (A := LgP lb db g mb :: DevH db d :: pts b7 (.cells [.int .i64 N, .slice (f i).1 s.length (f i).2].toArray 125) :: MapH hb (Value.int .i64) l :: R) ent (jr_Home lb db mb g d _ hk (by omega))) ?_
  rintro v M ⟨rfl, rfl⟩
  rw [hhome]
  refine ⟨[], LgP lb db g mb :: DevH db d :: R, ent, ?_⟩
  by_cases c2 : (hm : Int) ≤ N
  · refine go ?_
    refine ⟨LgP lb db g mb :: DevH db d :: R, ent, ?_⟩
    refine go ?_
    exact ⟨rfl, [_], ⟨Res.tmp rfl, trivial⟩, LgP lb db g mb :: DevH db d :: R, ent, congrArg Value.bool (hbad (by rw [hnb, decide_eq_true c2, Bool.or_true]; rfl)), rfl⟩
  refine go ?_
  by_cases c3 : N ∈ (cs.take i).map (·.1)
  · refine DB.q (v := .bool true) rfl rfl hl (SV.lookup1 (i := N) (z := .bool false) rfl rfl ⟨_, rfl⟩ (by kernel_rfl) (Tk.there Tk.here) (by rw [hmk, if_pos c3]; exact eqq)) ?_
    refine go ?_
    refine ⟨LgP lb db g mb :: DevH db d :: R, ent, ?_⟩
    refine go ?_
    exact ⟨rfl, [_], ⟨Res.tmp rfl, trivial⟩, LgP lb db g mb :: DevH db d :: R, ent, congrArg Value.bool (hbad (by rw [hnb, decide_eq_true c3, Bool.or_true]; rfl)), rfl⟩
  refine DB.q (v := .bool false) rfl rfl hl (SV.lookup1 (i := N) (z := .bool false) rfl rfl ⟨_, rfl⟩ (by kernel_rfl) (Tk.there Tk.here) (by rw [hmk, if_neg c3]; exact eqq)) ?_
  by_cases c4 : s.length = 256
  rotate_left
  · refine go ?_
    refine ⟨LgP lb db g mb :: DevH db d :: R, ent, ?_⟩
    refine go ?_
    exact ⟨rfl, [_], ⟨Res.tmp rfl, trivial⟩, LgP lb db g mb :: DevH db d :: R, ent, congrArg Value.bool (hbad (by rw [hnb, decide_eq_true c4, Bool.or_true])), rfl⟩
  have hg2 : goodN hm cs (i + 1) = true := by
    rw [hst, hnb, decide_eq_false c1, decide_eq_false c2, decide_eq_false c3, decide_eq_false (fun z => z c4)]; rfl
  refine go ?_
  refine ⟨MapH hb (Value.int .i64) l :: pts b7 (.cells [.int .i64 N, .slice (f i).1 s.length (f i).2].toArray 125) :: LgP lb db g mb :: DevH db d :: R, ent, ?_⟩
  refine go ?_
  refine WO.sv rfl ?_
  refine SV.mapPut (enc := Value.int .i64) (i := N) (v := .bool true) (l := l) rfl rfl rfl ⟨_, rfl⟩ Tk.here ?_
  refine go ?_
  refine ⟨(i + 1, mset l N (.bool true)), ⟨rfl, trivial⟩, rfl, ⟨h9, hg2, fun k => ?_⟩, by dsimp only; omega, Ent.app ent⟩
  dsimp only
  rw [mget_mset, hts, hml k]
  by_cases hkN : k = N
  · rw [if_pos hkN, if_pos (by rw [hkN]; simp)]
  · rw [if_neg hkN]
    by_cases hkm : k ∈ (cs.take i).map (·.1)
    · rw [if_pos hkm, if_pos (List.mem_append_left _ hkm)]
    · rw [if_neg hkm, if_neg (fun z => (List.mem_append.1 z).elim hkm fun y => hkN (List.mem_singleton.1 y))]
end Go.SL

/- Layer 8: marks: the law's known block. -/
namespace Go.SL
open Go.Proofs
set_option linter.unusedVariables false
set_option linter.unusedSimpArgs false
set_option maxRecDepth 10000
set_option maxHeartbeats 4000000
attribute [local irreducible] W WO SV OW SW Tri Ent Tk Has Src SrcK DA DB RdS Own

theorem get_u8 {s : Byt} {i : Nat} {x : UInt8} (h : s[i]? = some x) : (s.map u8V)[i]? = some (u8V x) := by rw [List.getElem?_map, h]; rfl
end Go.SL

/- Layer 8: marks: covering and baring. -/
namespace Go.SL
open Go.Proofs
set_option linter.unusedVariables false
set_option linter.unusedSimpArgs false
set_option maxRecDepth 10000
set_option maxHeartbeats 4000000
attribute [local irreducible] W WO SV OW SW Tri Ent Tk Has Src SrcK DA DB RdS Own

theorem mk_Cover (X : HP) (a : Option Addr) (c : Nat) (s : Byt) (R : List HP) (hb : s.length ≤ 9223372036854775807) (r : RdS 1 a s.length (s.map u8V) [X]) :
    TriE Tryz.prog 153 #[.slice a s.length c] (fun v M =>
      (s.length ≠ 256 ∧ v = .tuple #[.slice none 0 0, u8V 0, .int .i64 2] ∧ M = X :: R) ∨
      (s.length = 256 ∧ ∃ a' c', v = .tuple #[.slice a' (s.set 0 3).length c', u8V (s.getD 0 0), .int .i64 0] ∧ SomeA a' (s.set 0 3).length ∧ M = OS a' c' (s.set 0 3) :: X :: R)) (X :: R) := by
  refine Tri.of (N := 17) (args := [.slice a s.length c]) Tryz.func153 rfl rfl rfl ?_
  refine go ?_
  by_cases h256 : s.length ≠ 256
  · refine go ?_
    exact ⟨rfl, [_, _, _], ⟨Res.tmp rfl, Res.tmp rfl, Res.tmp rfl, trivial⟩, X :: R, ent, .inl ⟨h256, rfl, rfl⟩⟩
  have h2 : s.length = 256 := Classical.not_not.1 h256
  have g0 : (s.map u8V)[0]? = some (u8V (s.getD 0 0)) := by simp [show 0 < s.length by omega]
  obtain ⟨b, o, rfl⟩ := r.at (by omega)
  refine go ?_
  refine WO.callE (vs := [.slice (some ⟨b, o, none⟩) s.length c]) Tryz.func80 rfl rfl rfl rfl (sl_CloneB (some ⟨b, o, none⟩) c s (X :: R) (by omega) (RdS.ent ent r)) ?_
  rintro v M ⟨a', c', rfl, ha', rfl⟩
  obtain ⟨b', rfl⟩ := ha' (by omega)
  refine go ?_
  unfold OS
  refine WO.sv rfl ?_
  refine SV.storeB 0 (u := 3) rfl tk rfl rfl (by omega) rfl ?_
  refine go ?_
  refine W.drawA rfl (by kernel_rfl) (by kernel_rfl) ?_
  refine go ?_
  refine DA.q (v := u8V (s.getD 0 0)) rfl rfl (SV.loadR 0 rfl (RdS.ent ent r) (by omega) g0 eqq) ?_
  refine go ?_
  refine ⟨rfl, [_, _, _], ⟨Res.tmp rfl, Res.tmp rfl, Res.tmp rfl, trivial⟩, _, Ent.refl _, .inr ⟨h2, some ⟨b', 0, none⟩, c', ?_, fun _ => ⟨b', rfl⟩, ?_⟩⟩
  · rw [List.length_set]; rfl
  · rw [List.length_set]
theorem mk_Bare (X : HP) (a : Option Addr) (c : Nat) (s : Byt) (y : UInt8) (R : List HP) (hb : s.length ≤ 9223372036854775807) (r : RdS 1 a s.length (s.map u8V) [X]) :
    TriE Tryz.prog 184 #[.slice a s.length c, u8V y] (fun v M =>
      (s.length ≠ 256 ∧ v = .tuple #[.slice none 0 0, .int .i64 2] ∧ M = X :: R) ∨ (s.length = 256 ∧ s.getD 0 0 ≠ 3 ∧ v = .tuple #[.slice none 0 0, .int .i64 11] ∧ M = X :: R) ∨
      (s.length = 256 ∧ s.getD 0 0 = 3 ∧ ∃ a' c', v = .tuple #[.slice a' (s.set 0 y).length c', .int .i64 0] ∧ SomeA a' (s.set 0 y).length ∧ M = OS a' c' (s.set 0 y) :: X :: R)) (X :: R) := by
  refine Tri.of (N := 22) (args := [.slice a s.length c, u8V y]) Tryz.func184 rfl rfl rfl ?_
  refine go ?_
  by_cases h256 : s.length ≠ 256
  · refine go ?_
    exact ⟨rfl, [_, _], ⟨Res.tmp rfl, Res.tmp rfl, trivial⟩, X :: R, ent, .inl ⟨h256, rfl, rfl⟩⟩
  have h2 : s.length = 256 := Classical.not_not.1 h256
  have g0 : (s.map u8V)[0]? = some (u8V (s.getD 0 0)) := by simp [show 0 < s.length by omega]
  obtain ⟨b, o, rfl⟩ := r.at (by omega)
  refine go ?_
  refine WO.sv rfl ?_
  refine SV.loadR 0 rfl (RdS.ent ent r) (by omega) g0 ?_
  have hy : ∀ x : UInt8, x.toNat = 3 → x = 3 := fun x h => UInt8.toNat_inj.1 h
  by_cases h3 : (s.getD 0 0).toNat = 3
  · have h3' := hy _ h3
    refine go ?_
    refine WO.callE (vs := [.slice (some ⟨b, o, none⟩) s.length c]) Tryz.func80 rfl rfl rfl rfl (sl_CloneB (some ⟨b, o, none⟩) c s (X :: R) (by omega) (RdS.ent ent r)) ?_
    rintro v M ⟨a', c', rfl, ha', rfl⟩
    obtain ⟨b', rfl⟩ := ha' (by omega)
    refine go ?_
    unfold OS
    refine WO.sv rfl ?_
    refine SV.storeB 0 (u := y) rfl tk rfl rfl (by omega) rfl ?_
    refine go ?_
    refine ⟨rfl, [_, _], ⟨Res.tmp rfl, Res.tmp rfl, trivial⟩, _, Ent.refl _, .inr (.inr ⟨h2, h3', some ⟨b', 0, none⟩, c', ?_, fun _ => ⟨b', rfl⟩, ?_⟩)⟩
    · rw [List.length_set]; rfl
    · rw [List.length_set]
  · refine go ?_
    exact ⟨rfl, [_, _], ⟨Res.tmp rfl, Res.tmp rfl, trivial⟩, X :: R, ent, .inr (.inl ⟨h2, fun h => h3 (by rw [h]; rfl), rfl, rfl⟩)⟩
end Go.SL

/- Layer 10 (journal): a transaction is laid, walked. -/
namespace Go.SL
open Go.Proofs
set_option linter.unusedVariables false
set_option linter.unusedSimpArgs false
set_option linter.unusedSectionVars false
set_option maxRecDepth 10000
set_option maxHeartbeats 4000000
theorem toCj {L : List HP} : Ent L [SL.conj L] := Ent.conj (by rw [List.append_nil]; exact Ent.refl _)
theorem ofCj {L : List HP} : Ent [SL.conj L] L := fun h x => by have := has_conj.1 x; rwa [List.append_nil] at this
theorem toCj2 {A B : HP} {L : List HP} : Ent (A :: B :: L) [A, B, SL.conj L] := fun h x => Has.cons_of (fun h x => Has.cons_of toCj x) x
theorem ofCj2 {A B : HP} {L : List HP} : Ent [A, B, SL.conj L] (A :: B :: L) := fun h x => Has.cons_of (fun h x => Has.cons_of ofCj x) x
theorem put_step (d : Dv) (ok : d.Ok) (n : Int) (s : Byt) : (d.put n s).1.Ok ∧ (d.put n s).1.kept.length = d.kept.length ∧ (d.put n s).1.waits.length ≤ d.waits.length + 1 := ⟨Dv.put_ok ok n s, by rw [put_kept], put_waits d n s⟩
theorem flush_step (d : Dv) (ok : d.Ok) : d.flush.1.Ok ∧ d.flush.1.kept.length = d.kept.length ∧ d.flush.1.waits.length ≤ d.waits.length := ⟨Dv.flush_ok ok, flush_kept d ok, flush_waits d⟩
theorem drop_cons {cs : Chs} {i : Nat} (h : i < cs.length) : cs.drop i = cs.getD i (0, []) :: cs.drop (i + 1) := by
  rw [List.getD_eq_getElem?_getD, List.getElem?_eq_getElem h, Option.getD_some, List.getElem_cons_drop]
theorem take_flat {cs : Chs} {i : Nat} (h : i < cs.length) : (cs.take (i + 1)).flatMap chB = (cs.take i).flatMap chB ++ chB (cs.getD i (0, [])) := by
  rw [List.take_succ_eq_append_getElem h, List.flatMap_append, List.getD_eq_getElem?_getD, List.getElem?_eq_getElem h]; simp
theorem chFlat_len (cs : Chs) : (cs.flatMap chB).length = 3 * cs.length := by
  induction cs with
  | nil => rfl
  | cons x l ih => rw [List.flatMap_cons, List.length_append, ih]; simp [chB]; omega
/-- Changes that are right. -/
structure ChOk (home : Nat) (cs : Chs) : Prop where
  n : ∀ i, i < cs.length → 0 ≤ (cs.getD i (0, [])).1 ∧ (cs.getD i (0, [])).1 < home
  s : ∀ i, i < cs.length → (cs.getD i (0, [])).2.length = 256
  l : 1 ≤ cs.length ∧ cs.length ≤ 70
theorem goodN_true {home : Nat} {c : Chs} : ∀ {n : Nat}, goodN home c n = true → ∀ i, i < n → nowBad home c i = false := by
  intro n
  induction n with
  | zero => intro _ i hi; omega
  | succ n ih =>
    intro h i hi
    unfold goodN at h
    rw [Bool.and_eq_true] at h
    by_cases e : i = n
    · subst e; simpa using h.2
    · exact ih h.1 i (by omega)
theorem chsR_ok {home : Nat} {cs : Chs} (h : chsR home cs = true) : ChOk home cs := by
  unfold chsR at h
  rw [Bool.and_eq_true, Bool.and_eq_true, decide_eq_true_eq, decide_eq_true_eq] at h
  have hb := goodN_true h.1
  have key : ∀ i, i < cs.length → 0 ≤ (cs.getD i (0, [])).1 ∧ (cs.getD i (0, [])).1 < home ∧ (cs.getD i (0, [])).2.length = 256 := fun i hi => by
    have := hb i hi
    unfold nowBad at this
    simp only [Bool.or_eq_false_iff, decide_eq_false_iff_not] at this
    obtain ⟨⟨⟨q1, q2⟩, q3⟩, q4⟩ := this
    exact ⟨by omega, by omega, Classical.byContradiction fun z => q4 z⟩
  exact ⟨fun i hi => ⟨(key i hi).1, (key i hi).2.1⟩, fun i hi => (key i hi).2.2, h.2⟩
theorem map_get0 {s : Byt} (h : 0 < s.length) : (s.map u8V)[0]? = some (u8V (s.getD 0 0)) := by
  cases s with
  | nil => simp at h
  | cons x l => rfl
theorem shr8i (N : Nat) : (N : Int).fdiv (2 ^ (min ((8 : Int)).toNat (IntKind.bits .i64))) = ((N / 256 : Nat) : Int) := by
  have e : min ((8 : Int)).toNat (IntKind.bits .i64) = 8 := by decide
  rw [e, Int.fdiv_eq_ediv_of_nonneg _ (by decide)]
  exact_mod_cast rfl
attribute [local irreducible] W WO SV OW SW Tri Ent Tk Has Src SrcK DA DB RdS Own MapH
theorem jr_lay (lb db mb : Nat) (g : Lg) (d0 : Dv) (a : Option Addr) (c : Nat) (cs : Chs) (f : Nat → Option Addr × Nat) (R : List HP) (w : LgW g) (ok0 : d0.Ok) (hwt : d0.waits.length ≤ 1000) (hp : ∀ k, g.place k < d0.kept.length) (co : ChOk 4096 cs) (r0 : ChR a cs f R) :
    TriE Tryz.prog 102 #[.pointer (some ⟨lb, 0, none⟩), .slice a cs.length c] (fun v M => v = .int .i64 (layF d0 g cs).2 ∧ M = LgP lb db g mb :: DevH db (layF d0 g cs).1 :: R) (LgP lb db g mb :: DevH db d0 :: R) := by
  have r : ChR a cs f [SL.conj R] := r0.ent ofCj
  have hcl := co.l
  have hfl := chFlat_len cs
  have hrl := chRow_len cs f
  refine Tri.of (N := 93) (args := [.pointer (some ⟨lb, 0, none⟩), .slice a cs.length c]) Tryz.func102 rfl rfl rfl ?_
  refine W.ent toCj2 ?_
  have hfin : ∀ (d : Dv), Ent [LgP lb db g mb, DevH db d, SL.conj R] (LgP lb db g mb :: DevH db d :: R) := fun d => ofCj2
  clear r0
  generalize hC : SL.conj R = C at *
  refine go ?_
  refine W.loopS 274877382816 rfl (fun q : Nat × Option Addr × Nat => [(19, .int .i64 (q.1 : Int)), (5, .slice q.2.1 ((cs.take q.1).flatMap chB).length q.2.2)]) (fun q => [OS q.2.1 q.2.2 ((cs.take q.1).flatMap chB), LgP lb db g mb, DevH db d0, C])
    (fun q => q.1 ≤ cs.length ∧ SomeA q.2.1 ((cs.take q.1).flatMap chB).length) (fun q => cs.length - q.1) (0, none, 0) ⟨rfl, rfl, trivial⟩ ⟨Nat.zero_le _, fun z => absurd rfl z⟩ (Ent.app (by dsimp only; unfold OS; exact Ent.ownNil ent)) ?_
  rintro ⟨i, a1, c1⟩ bg ⟨hi, ha1⟩
  dsimp only at hi ha1 ⊢
  by_cases h9 : i < cs.length
  · have hrow := chRow_at cs f h9
    have hbs := r.bs i h9
    have hn := co.n i h9
    have hs := co.s i h9
    have htf := take_flat h9
    have hpl : ((cs.take i).flatMap chB).length ≤ 210 := by
      rw [chFlat_len, List.length_take, Nat.min_eq_left hi]; omega
    have hcb : chB (cs.getD i (0, [])) = [UInt8.ofNat ((cs.getD i (0, [])).1.toNat / 256), UInt8.ofNat (cs.getD i (0, [])).1.toNat, (cs.getD i (0, [])).2.getD 0 0] := rfl
    rw [hcb] at htf
    clear hcb
    unfold chV at hrow
    have hb0 : ((cs.getD i (0, [])).2.map u8V)[0]? = some (u8V ((cs.getD i (0, [])).2.getD 0 0)) := by
      exact map_get0 (by rw [hs]; decide)
    obtain ⟨N, hN⟩ : ∃ N : Nat, (cs.getD i (0, [])).1 = N := ⟨_, (Int.toNat_of_nonneg hn.1).symm⟩
    rw [hN] at htf hrow hn
    rw [Int.toNat_natCast] at htf
    generalize (cs.getD i (0, [])).2 = s at *
    generalize (cs.take i).flatMap chB = out at *
    generalize s.getD 0 0 = y at *
    obtain ⟨b9, o9, rfl⟩ := r.row.at (by omega)
    obtain ⟨bs, os, hfa⟩ := hbs.at (by omega)
    rw [hfa] at hbs hrow
    refine go ?_
    refine WO.sv rfl ?_
    refine SV.loadRN (k := 2) (vs := [.int .i64 N, .slice (some ⟨bs, os, none⟩) s.length (f i).2]) (i * 2) rfl r.row.cons.cons.cons (by omega) (by decide) (by rw [hrl]; omega) hrow ?_
    refine go ?_
    intro b7
    refine go ?_
    refine W.drawG (fun _ => false) #[0, 0, 2, 6, 14, 0, 32, 96, 0, 256, 768, 1792, 4094, 8191, 16383] [pts b7 (.cells [.int .i64 N, .slice (some ⟨bs, os, none⟩) s.length (f i).2].toArray 125), C] [OS a1 c1 out, LgP lb db g mb, DevH db d0] rfl (by kernel_rfl) (by kernel_rfl) (by kernel_rfl) ent ?_
    refine go ?_
    refine DB.q (v := .int .i64 ((N / 256 : Nat) : Int)) rfl rfl hl (SV.shr rfl rfl (by decide) (shr8i N) eqq) ?_
    refine DB.q (v := u8V (UInt8.ofNat (N / 256))) rfl rfl hl (SV.convInt rfl (u8_of _) eqq) ?_
    refine go ?_
    rw [u8_of N]
    refine DB.q (v := u8V y) rfl rfl hl (SV.loadR 0 rfl hbs.cons rfl hb0 eqq) ?_
    refine DB.litH rfl rfl rfl parts rfl nl rfl rfl ?_
    intro b2
    refine go ?_
    refine DB.v rfl rfl rfl hl hl ?_
    unfold OS
    refine SV.append rfl rfl rfl tk (RdS.src (RdS.all (sz := 1) (n := 3) rfl).cons.cons) rfl rfl (by omega) rfl ?_
    intro a3 c3 ha3
    have hol : (out ++ [UInt8.ofNat (N / 256), UInt8.ofNat N, y]).length = out.length + 3 := by simp
    refine ⟨[], [Own 5 1 (.slice a3 (out.length + 3) c3) (out.length + 3) (out.map u8V ++ [u8V (UInt8.ofNat (N / 256)), u8V (UInt8.ofNat N), u8V y]), LgP lb db g mb, DevH db d0], ent, ?_⟩
    refine go ?_
    refine ⟨[Own 5 1 (.slice a3 (out.length + 3) c3) (out.length + 3) (out.map u8V ++ [u8V (UInt8.ofNat (N / 256)), u8V (UInt8.ofNat N), u8V y]), LgP lb db g mb, DevH db d0, C], ent, ?_⟩
    refine go ?_
    refine ⟨(i + 1, a3, c3), ⟨rfl, by dsimp only; rw [htf, hol]; rfl, trivial⟩, rfl, ⟨h9, by dsimp only; rw [htf, hol]; exact ha3⟩, by dsimp only; omega, Ent.app ?_⟩
    dsimp only
    rw [htf, hol, List.map_append]
    exact ent
  have hii : i = cs.length := by omega
  subst hii
  rw [List.take_length] at ha1 ⊢
  have hL : layF d0 g cs = andD (sealP d0 g 0 1 (cs.flatMap chB)) fun d => andD (layC g d cs 0) fun d => andD d.flush fun d => andD (sealP d g (1 + cs.length) 2 []) fun d => d.flush := rfl
  rw [hL]
  clear hL
  have hsl : (cs.flatMap chB).length ≤ 220 := by rw [hfl]; omega
  have st1 : (sealP d0 g 0 1 (cs.flatMap chB)).1.Ok ∧ (sealP d0 g 0 1 (cs.flatMap chB)).1.kept.length = d0.kept.length ∧ (sealP d0 g 0 1 (cs.flatMap chB)).1.waits.length ≤ d0.waits.length + 1 := put_step d0 ok0 (g.place 0 : Nat) (sealB 1 g.hd.epoch g.seq (cs.flatMap chB))
  generalize hb : cs.flatMap chB = b at *
  refine go ?_
  refine WO.callE (vs := [.pointer (some ⟨lb, 0, none⟩), .int .i64 (0 : Nat), u8V 1, .slice a1 b.length c1]) Tryz.func152 rfl rfl rfl rfl (TriE.ent (A := LgP lb db g mb :: DevH db d0 :: [OS a1 c1 b, C]) ent (jr_sealed lb db mb 0 g d0 1 a1 c1 b [OS a1 c1 b, C] w (by decide) (by decide) hsl ok0 (by omega) (OS.rd Tk.here ha1))) ?_
  rintro v M ⟨rfl, rfl⟩
  generalize sealP d0 g 0 1 b = q1 at *
  obtain ⟨d1, z1⟩ := q1
  dsimp only at st1 ⊢
  obtain ⟨ok1, hk1, hw1⟩ := st1
  by_cases hz1 : z1 = 0
  rotate_left
  · rw [show andD (d1, z1) _ = (d1, z1) from if_pos hz1]
    refine go ?_
    exact ⟨rfl, [_], ⟨Res.tmp rfl, trivial⟩, LgP lb db g mb :: DevH db d1 :: R, Ent.trans ent (hfin d1), rfl, rfl⟩
  subst hz1
  rw [show ∀ k, andD (d1, 0) k = k d1 from fun k => rfl]
  refine go ?_
  generalize hK : (fun d : Dv => andD d.flush fun d => andD (sealP d g (1 + cs.length) 2 []) fun d => d.flush) = K
  generalize hF : layC g d1 cs 0 = F
  refine W.loopS 4722366412500901068304 rfl (fun q : Nat × Dv => [(46, .int .i64 (q.1 : Int))]) (fun q => [LgP lb db g mb, DevH db q.2, C])
    (fun q => q.1 ≤ cs.length ∧ q.2.Ok ∧ q.2.kept.length = d0.kept.length ∧ q.2.waits.length ≤ 1001 + q.1 ∧ layC g q.2 (cs.drop q.1) q.1 = F) (fun q => cs.length - q.1) (0, d1) ⟨rfl, trivial⟩ ⟨Nat.zero_le _, ok1, hk1, by dsimp only; omega, hF⟩ (Ent.app ent) ?_
  clear hF ok1 hk1 hw1
  rintro ⟨i, d⟩ bg2 ⟨hi, ok, hkd, hwd, he⟩
  dsimp only at hi ok hkd hwd he ⊢
  by_cases h9 : i < cs.length
  · have hrow := chRow_at cs f h9
    have hbs := r.bs i h9
    have hs := co.s i h9
    have hdc := drop_cons h9
    have st := put_step d ok (g.place (1 + i) : Nat) ((cs.getD i (0, [])).2.set 0 3)
    rw [hdc] at he
    have hst : layC g d (cs.getD i (0, []) :: cs.drop (i + 1)) i = if (d.put (g.place (1 + i) : Nat) ((cs.getD i (0, [])).2.set 0 3)).2 ≠ 0 then d.put (g.place (1 + i) : Nat) ((cs.getD i (0, [])).2.set 0 3) else layC g (d.put (g.place (1 + i) : Nat) ((cs.getD i (0, [])).2.set 0 3)).1 (cs.drop (i + 1)) (i + 1) := rfl
    rw [hst] at he
    clear hst hdc
    unfold chV at hrow
    generalize (cs.getD i (0, [])).1 = N at *
    generalize (cs.getD i (0, [])).2 = s at *
    obtain ⟨b9, o9, rfl⟩ := r.row.at (by omega)
    refine go ?_
    refine WO.sv rfl ?_
    refine SV.loadRN (k := 2) (vs := [.int .i64 N, .slice (f i).1 s.length (f i).2]) (i * 2) rfl r.row.cons.cons (by omega) (by decide) (by rw [hrl]; omega) hrow ?_
    refine go ?_
    intro b10
    refine go ?_
    refine WO.callE (vs := [.slice (f i).1 s.length (f i).2]) Tryz.func153 rfl rfl rfl rfl (TriE.ent (A := C :: [LgP lb db g mb, DevH db d]) ent (mk_Cover C (f i).1 (f i).2 s [LgP lb db g mb, DevH db d] (by omega) hbs)) ?_
    rintro v M (⟨h, _⟩ | ⟨_, a4, c4, rfl, ha4, rfl⟩)
    · exact absurd hs h
    have hsl3 : (s.set 0 3).length = 256 := by rw [List.length_set, hs]
    generalize s.set 0 3 = s3 at *
    refine go ?_
    refine W.drawB #[0, 1, 3, 7, 0, 0, 32, 112, 0, 511, 1023] [LgP lb db g mb] [OS a4 c4 s3, C, DevH db d] rfl (by kernel_rfl) (by kernel_rfl) (by kernel_rfl) ent ?_
    refine go ?_
    rw [show (1 : Int) + (i : Int) = ((1 + i : Nat) : Int) by omega]
    refine DB.callE (vs := [.pointer (some ⟨lb, 0, none⟩), .int .i64 (1 + i : Nat)]) Tryz.func154 rfl rfl rfl rfl hl hl (jr_place lb db mb (1 + i) g _ w.l3 w.l4 w.eq w.cur (by omega)) ?_
    rintro v M ⟨rfl, rfl⟩
    refine ⟨[], [OS a4 c4 s3, C, DevH db d], ent, ?_⟩
    refine go ?_
    refine DB.callE (vs := [.pointer (some ⟨db, 0, none⟩), .int .i64 (g.place (1 + i) : Nat), .slice a4 s3.length c4]) Tryz.func103 rfl rfl rfl rfl hl hl (TriE.ent (A := DevH db d :: [OS a4 c4 s3, LgP lb db g mb, C]) ent (dv_Write db d (g.place (1 + i) : Nat) a4 c4 s3 [OS a4 c4 s3, LgP lb db g mb, C] ok (by omega) (by omega) (OS.rd Tk.here ha4))) ?_
    rintro v M ⟨rfl, rfl⟩
    generalize d.put (g.place (1 + i) : Nat) s3 = q at *
    obtain ⟨d2, z⟩ := q
    dsimp only at he st ⊢
    refine ⟨[], [DevH db d2, C], ent, ?_⟩
    refine go ?_
    refine ⟨[LgP lb db g mb, DevH db d2, C], ent, ?_⟩
    by_cases hz : z = 0
    · subst hz
      rw [if_neg (by simp)] at he
      refine go ?_
      exact ⟨(i + 1, d2), ⟨rfl, trivial⟩, rfl, ⟨h9, st.1, by dsimp only; rw [st.2.1, hkd], by dsimp only; omega, he⟩, by dsimp only; omega, Ent.app ent⟩
    · rw [if_pos hz] at he
      subst he
      rw [show andD (d2, z) K = (d2, z) from if_pos hz]
      refine go ?_
      exact ⟨rfl, [_], ⟨Res.tmp rfl, trivial⟩, LgP lb db g mb :: DevH db d2 :: R, Ent.trans ent (hfin d2), rfl, rfl⟩
  have hii : i = cs.length := by omega
  subst hii
  rw [List.drop_length] at he
  have he' : F = (d, 0) := he.symm
  subst he'
  rw [show andD (d, 0) K = K d from rfl, ← hK]
  dsimp only
  clear hK K
  have st2 := flush_step d ok
  refine go ?_
  refine WO.callE (vs := [.pointer (some ⟨db, 0, none⟩)]) Tryz.func104 rfl rfl rfl rfl (TriE.ent (A := DevH db d :: [LgP lb db g mb, C]) ent (dv_Flush db d _ ok (by omega))) ?_
  rintro v M ⟨rfl, rfl⟩
  generalize d.flush = q at *
  obtain ⟨d2, z2⟩ := q
  dsimp only at st2 ⊢
  obtain ⟨ok2, hk2, hw2⟩ := st2
  by_cases hz2 : z2 = 0
  rotate_left
  · rw [show andD (d2, z2) _ = (d2, z2) from if_pos hz2]
    refine go ?_
    exact ⟨rfl, [_], ⟨Res.tmp rfl, trivial⟩, LgP lb db g mb :: DevH db d2 :: R, Ent.trans ent (hfin d2), rfl, rfl⟩
  subst hz2
  rw [show ∀ k, andD (d2, 0) k = k d2 from fun k => rfl]
  have st3 : (sealP d2 g (1 + cs.length) 2 []).1.Ok ∧ (sealP d2 g (1 + cs.length) 2 []).1.kept.length = d2.kept.length ∧ (sealP d2 g (1 + cs.length) 2 []).1.waits.length ≤ d2.waits.length + 1 := put_step d2 ok2 (g.place (1 + cs.length) : Nat) (sealB 2 g.hd.epoch g.seq [])
  refine go ?_
  rw [show (1 : Int) + (cs.length : Int) = ((1 + cs.length : Nat) : Int) by omega]
  refine WO.callE (vs := [.pointer (some ⟨lb, 0, none⟩), .int .i64 (1 + cs.length : Nat), u8V 2, .slice none 0 0]) Tryz.func152 rfl rfl rfl rfl (TriE.ent (A := LgP lb db g mb :: DevH db d2 :: [C]) ent (jr_sealed lb db mb (1 + cs.length) g d2 2 none 0 [] [C] w (by omega) (by decide) (by decide) ok2 (by omega) RdS.nil)) ?_
  rintro v M ⟨rfl, rfl⟩
  generalize sealP d2 g (1 + cs.length) 2 [] = q at *
  obtain ⟨d3, z3⟩ := q
  dsimp only at st3 ⊢
  obtain ⟨ok3, hk3, hw3⟩ := st3
  by_cases hz3 : z3 = 0
  rotate_left
  · rw [show andD (d3, z3) _ = (d3, z3) from if_pos hz3]
    refine go ?_
    exact ⟨rfl, [_], ⟨Res.tmp rfl, trivial⟩, LgP lb db g mb :: DevH db d3 :: R, Ent.trans ent (hfin d3), rfl, rfl⟩
  subst hz3
  rw [show ∀ k, andD (d3, 0) k = k d3 from fun k => rfl]
  refine go ?_
  refine WO.callE (vs := [.pointer (some ⟨db, 0, none⟩)]) Tryz.func104 rfl rfl rfl rfl (TriE.ent (A := DevH db d3 :: [LgP lb db g mb, C]) ent (dv_Flush db d3 _ ok3 (by omega))) ?_
  rintro v M ⟨rfl, rfl⟩
  generalize d3.flush = q at *
  obtain ⟨d4, z4⟩ := q
  refine go ?_
  exact ⟨rfl, [_], ⟨Res.tmp rfl, trivial⟩, LgP lb db g mb :: DevH db d4 :: R, Ent.trans ent (hfin d4), rfl, rfl⟩
end Go.SL

/- Layer 10 (journal): what is not laid at its place. -/
namespace Go.SL
open Go.Proofs
set_option linter.unusedVariables false
set_option linter.unusedSimpArgs false
set_option linter.unusedSectionVars false
set_option maxRecDepth 10000
set_option maxHeartbeats 4000000
def wget : Chs → Int → Option Byt
  | [], _ => none
  | (j, u) :: l, k => if k = j then some u else wget l k
def wput : Chs → Int → Byt → Chs
  | [], k, s => [(k, s)]
  | (j, u) :: l, k, s => if k = j then (k, s) :: l else (j, u) :: wput l k s
abbrev WA := Int → Option Addr × Nat
def wV (f : WA) (p : Int × Byt) : Int × Value := (p.1, .slice (f p.1).1 256 (f p.1).2)
def wO (f : WA) (p : Int × Byt) : HP := OS (f p.1).1 (f p.1).2 p.2
def WFit (w : Chs) (f : WA) : Prop := (w.map (·.1)).Nodup ∧ ∀ p ∈ w, SomeA (f p.1).1 256 ∧ p.2.length = 256
/-- A map of blocks. -/
def WetH (mb : Nat) (w : Chs) : HP := hex fun f : WA => SL.conj (hpure (WFit w f) :: MapH mb (Value.int .i64) (w.map (wV f)) :: w.map (wO f))
theorem WetH.nil {mb : Nat} {R : List HP} : Ent (MapH mb (Value.int .i64) ([] : List (Int × Value)) :: R) (WetH mb [] :: R) := fun h x =>
  has_hex.2 ⟨fun _ => (none, 0), has_conj.2 (has_pure.2 ⟨⟨by simp, fun p hp => by cases hp⟩, x⟩)⟩
theorem mget_wV (f : WA) : ∀ (w : Chs) (k : Int), mget (w.map (wV f)) k = (wget w k).map fun _ => Value.slice (f k).1 256 (f k).2
  | [], k => rfl
  | (j, u) :: l, k => by
    show (if k = j then some (Value.slice (f j).1 256 (f j).2) else mget (l.map (wV f)) k) = (if k = j then some u else wget l k).map _
    by_cases h : k = j
    · subst h; rw [if_pos rfl, if_pos rfl]; rfl
    · rw [if_neg h, if_neg h]; exact mget_wV f l k
theorem wget_mem : ∀ {w : Chs} {k : Int} {s : Byt}, wget w k = some s → (k, s) ∈ w
  | [], k, s, h => by cases h
  | (j, u) :: l, k, s, h => by
    unfold wget at h
    by_cases e : k = j
    · rw [if_pos e] at h; injection h with h; subst e; subst h; exact List.mem_cons_self
    · rw [if_neg e] at h; exact List.mem_cons_of_mem _ (wget_mem h)
theorem wO_take (f : WA) : ∀ {w : Chs} {p : Int × Byt} {R : List HP}, p ∈ w → ∃ M, Ent (w.map (wO f) ++ R) (wO f p :: M)
  | [], p, R, h => by cases h
  | q :: l, p, R, h => by
    rcases List.mem_cons.1 h with rfl | h
    · exact ⟨l.map (wO f) ++ R, Ent.refl _⟩
    · obtain ⟨M, e⟩ := wO_take f (R := R) h
      exact ⟨wO f q :: M, fun hp x => Has.swap (Has.cons_of e x)⟩
def wupd (f : WA) (k : Int) (v : Option Addr × Nat) : WA := fun j => if j = k then v else f j
theorem wupd_map {f : WA} {k : Int} {v : Option Addr × Nat} {w : Chs} (h : k ∉ w.map (·.1)) : w.map (wV (wupd f k v)) = w.map (wV f) ∧ w.map (wO (wupd f k v)) = w.map (wO f) := by
  have key : ∀ p ∈ w, wupd f k v p.1 = f p.1 := fun p hp => by
    unfold wupd
    rw [if_neg (fun e : p.1 = k => h (e ▸ List.mem_map_of_mem (f := (·.1)) hp))]
  exact ⟨List.map_congr_left fun p hp => by unfold wV; rw [key p hp], List.map_congr_left fun p hp => by unfold wO; rw [key p hp]⟩
theorem wput_keys : ∀ (w : Chs) (k : Int) (s : Byt), (w.map (·.1)).Nodup → ((wput w k s).map (·.1)).Nodup ∧ ∀ j, j ∈ (wput w k s).map (·.1) ↔ j = k ∨ j ∈ w.map (·.1)
  | [], k, s, _ => ⟨by simp [wput], fun j => by simp [wput]⟩
  | (j, u) :: l, k, s, hn => by
    simp only [List.map_cons, List.nodup_cons] at hn
    unfold wput
    by_cases e : k = j
    · subst e
      rw [if_pos rfl]
      refine ⟨by simp only [List.map_cons, List.nodup_cons]; exact hn, fun i => by simp⟩
    · rw [if_neg e]
      obtain ⟨h1, h2⟩ := wput_keys l k s hn.2
      refine ⟨?_, fun i => ?_⟩
      · simp only [List.map_cons, List.nodup_cons]
        refine ⟨fun q => ?_, h1⟩
        rcases (h2 j).1 q with rfl | q
        · exact e rfl
        · exact hn.1 q
      · simp only [List.map_cons, List.mem_cons, h2]
        constructor
        · rintro (h | h | h)
          · exact .inr (.inl h)
          · exact .inl h
          · exact .inr (.inr h)
        · rintro (h | h | h)
          · exact .inr (.inl h)
          · exact .inl h
          · exact .inr (.inr h)
theorem wput_vals (f : WA) (v : Option Addr × Nat) : ∀ (w : Chs) (k : Int) (s : Byt), (w.map (·.1)).Nodup → (wput w k s).map (wV (wupd f k v)) = mset (w.map (wV f)) k (.slice v.1 256 v.2)
  | [], k, s, _ => by simp [wput, mset, wV, wupd]
  | (j, u) :: l, k, s, hn => by
    simp only [List.map_cons, List.nodup_cons] at hn
    show (if k = j then (k, s) :: l else (j, u) :: wput l k s).map (wV (wupd f k v)) = if k = j then (k, Value.slice v.1 256 v.2) :: l.map (wV f) else (j, Value.slice (f j).1 256 (f j).2) :: mset (l.map (wV f)) k (.slice v.1 256 v.2)
    by_cases e : k = j
    · subst e
      rw [if_pos rfl, if_pos rfl, List.map_cons, (wupd_map hn.1).1]
      simp [wV, wupd]
    · rw [if_neg e, if_neg e, List.map_cons, wput_vals f v l k s hn.2]
      have : wupd f k v j = f j := by unfold wupd; rw [if_neg (fun q => e q.symm)]
      simp only [wV, this]
theorem wput_items (f : WA) (v : Option Addr × Nat) : ∀ (w : Chs) (k : Int) (s : Byt) (R : List HP), (w.map (·.1)).Nodup → Ent (OS v.1 v.2 s :: (w.map (wO f) ++ R)) ((wput w k s).map (wO (wupd f k v)) ++ R)
  | [], k, s, R, _ => by
    have : wupd f k v k = v := by unfold wupd; rw [if_pos rfl]
    show Ent (OS v.1 v.2 s :: R) (OS (wupd f k v k).1 (wupd f k v k).2 s :: R)
    rw [this]; exact Ent.refl _
  | (j, u) :: l, k, s, R, hn => by
    simp only [List.map_cons, List.nodup_cons] at hn
    unfold wput
    by_cases e : k = j
    · subst e
      rw [if_pos rfl]
      show Ent (OS v.1 v.2 s :: (wO f (k, u) :: l.map (wO f) ++ R)) (wO (wupd f k v) (k, s) :: (l.map (wO (wupd f k v)) ++ R))
      rw [(wupd_map hn.1).2]
      have : wupd f k v k = v := by unfold wupd; rw [if_pos rfl]
      show Ent _ (OS (wupd f k v k).1 (wupd f k v k).2 s :: (l.map (wO f) ++ R))
      rw [this]
      exact fun h x => Has.cons_of (fun _ y => y.tail) x
    · rw [if_neg e]
      have h1 : wupd f k v j = f j := by unfold wupd; rw [if_neg (fun q => e q.symm)]
      have ih := wput_items f v l k s R hn.2
      show Ent _ (OS (wupd f k v j).1 (wupd f k v j).2 u :: ((wput l k s).map (wO (wupd f k v)) ++ R))
      rw [h1]
      exact fun h x => Has.cons_of ih x.swap
theorem WFit.put {w : Chs} {f : WA} (h : WFit w f) {k : Int} {s : Byt} {v : Option Addr × Nat} (hs : s.length = 256) (hv : SomeA v.1 256) : WFit (wput w k s) (wupd f k v) := by
  refine ⟨(wput_keys w k s h.1).1, ?_⟩
  have key : ∀ (w : Chs), (∀ p ∈ w, SomeA (f p.1).1 256 ∧ p.2.length = 256) → ∀ p ∈ wput w k s, SomeA (wupd f k v p.1).1 256 ∧ p.2.length = 256 := by
    intro w
    have one : ∀ p : Int × Byt, SomeA (f p.1).1 256 ∧ p.2.length = 256 → SomeA (wupd f k v p.1).1 256 ∧ p.2.length = 256 := fun p hp => by
      unfold wupd
      split
      · exact ⟨hv, hp.2⟩
      · exact hp
    induction w with
    | nil =>
      intro _ p hp
      obtain rfl := List.mem_singleton.1 hp
      exact ⟨by unfold wupd; rw [if_pos rfl]; exact hv, hs⟩
    | cons q l ih =>
      obtain ⟨j, u⟩ := q
      intro hh p hp
      unfold wput at hp
      split at hp
      · rcases List.mem_cons.1 hp with rfl | hp
        · exact ⟨by unfold wupd; rw [if_pos rfl]; exact hv, hs⟩
        · exact one p (hh p (List.mem_cons_of_mem _ hp))
      · rcases List.mem_cons.1 hp with rfl | hp
        · exact one _ (hh _ List.mem_cons_self)
        · exact ih (fun p hp => hh p (List.mem_cons_of_mem _ hp)) p hp
  exact key w h.2
/-- A block is put into the map. -/
theorem WetH.put {mb : Nat} {w : Chs} {f : WA} (h : WFit w f) {k : Int} {s : Byt} {v : Option Addr × Nat} (hs : s.length = 256) (hv : SomeA v.1 256) {R : List HP} :
    Ent (MapH mb (Value.int .i64) (mset (w.map (wV f)) k (.slice v.1 256 v.2)) :: OS v.1 v.2 s :: (w.map (wO f) ++ R)) (WetH mb (wput w k s) :: R) := fun hp x => by
  refine has_hex.2 ⟨wupd f k v, has_conj.2 (has_pure.2 ⟨h.put hs hv, ?_⟩)⟩
  rw [wput_vals f v w k s h.1]
  exact Has.cons_of (wput_items f v w k s R h.1) x
end Go.SL

/- Layer 10 (journal): a transaction is done, walked. -/
namespace Go.SL
open Go.Proofs
set_option linter.unusedVariables false
set_option linter.unusedSimpArgs false
set_option linter.unusedSectionVars false
set_option maxRecDepth 10000
set_option maxHeartbeats 4000000
def wputs (w : Chs) : Chs → Chs
  | [] => w
  | x :: c => wputs (wput w x.1 x.2) c
/-- What a log is behind a transaction. -/
def Lg.more (g : Lg) (cs : Chs) : Lg := ⟨g.hd, (g.cur + (cs.length + 2)) % g.log, g.seq + 1, g.used + (cs.length + 2), wputs g.wet cs, g.down⟩
/-- A transaction, where there are places for it. -/
def doneP (d : Dv) (g : Lg) (cs : Chs) : Dv × Lg × Int :=
  if (layF d g cs).2 ≠ 0 then ((layF d g cs).1, { g with down := true }, (layF d g cs).2) else ((layF d g cs).1, g.more cs, 0)
/-- Why a transaction is refused, or 0. -/
def refP (d : Dv) (g : Lg) (cs : Chs) : Int :=
  if g.down = true then 17 else if chsR (homeN d g) cs = false then 2 else if g.log < cs.length + 2 then 15 else 0
theorem W.wet {P : Program} {N : Nat} {ro : Option Nat} {Q : Post} {f : Frm} {L : List HP} {c : Code} {mb : Nat} {w : Chs}
    (h : ∀ fm, WFit w fm → W P N ro c Q f (MapH mb (Value.int .i64) (w.map (wV fm)) :: SL.conj (w.map (wO fm)) :: L)) : W P N ro c Q f (WetH mb w :: L) := by
  unfold WetH
  refine W.exI fun fm => W.conjI (W.pureI fun hf => ?_)
  exact W.ent (fun h x => Has.cons_of (Ent.conj (Ent.refl _)) x) (h fm hf)
theorem WetH.putC {mb : Nat} {w : Chs} {f : WA} (h : WFit w f) {k : Int} {s : Byt} {v : Option Addr × Nat} (hs : s.length = 256) (hv : SomeA v.1 256) {R : List HP} :
    Ent (MapH mb (Value.int .i64) (mset (w.map (wV f)) k (.slice v.1 256 v.2)) :: OS v.1 v.2 s :: SL.conj (w.map (wO f)) :: R) (WetH mb (wput w k s) :: R) := fun hp x =>
  WetH.put h hs hv _ (Has.cons_of (fun _ y => Has.cons_of (fun _ z => has_conj.1 z) y) x)
theorem Ent.under {A : HP} {L M : List HP} (e : Ent L M) : Ent (A :: L) (A :: M) := fun h x => Has.cons_of e x
attribute [local irreducible] W WO SV OW SW Tri Ent Tk Has Src SrcK DA DB RdS Own MapH WetH
theorem jr_CommitU (x : Value) (y : Value) (L : List HP) (u : Unm x L) :
    TriE Tryz.prog 52 #[x, y] (fun v M => v = .int .i64 1 ∧ M = L) L := by
  refine Tri.of (N := 103) (args := [x, y]) Tryz.func52 rfl rfl rfl ?_
  refine go ?_
  refine WO.callE (vs := [x]) Tryz.func79 rfl rfl rfl rfl (jr_checkU x L u) ?_
  rintro v M ⟨rfl, rfl⟩
  refine go ?_
  exact ⟨rfl, [_], ⟨Res.tmp rfl, trivial⟩, _, ent, rfl, rfl⟩
theorem jr_CommitBad (lb db mb : Nat) (g : Lg) (d : Dv) (a : Option Addr) (c : Nat) (cs : Chs) (f : Nat → Option Addr × Nat) (R : List HP) (hk : d.kept.length ≤ 4096) (hlog : (g.log : Int) = g.hd.log) (hl3 : g.log + 2 ≤ d.kept.length) (r : ChR a cs f R) (hr : refP d g cs ≠ 0) :
    TriE Tryz.prog 52 #[.pointer (some ⟨lb, 0, none⟩), .slice a cs.length c] (fun v M => v = .int .i64 (refP d g cs) ∧ M = LgP lb db g mb :: DevH db d :: R) (LgP lb db g mb :: DevH db d :: R) := by
  have hcount := r.count
  have hF : refP d g cs = if g.down = true then 17 else if chsR (homeN d g) cs = false then 2 else if g.log < cs.length + 2 then 15 else 0 := rfl
  generalize refP d g cs = e at *
  refine Tri.of (N := 103) (args := [.pointer (some ⟨lb, 0, none⟩), .slice a cs.length c]) Tryz.func52 rfl rfl rfl ?_
  refine go ?_
  refine WO.callE (vs := [.pointer (some ⟨lb, 0, none⟩)]) Tryz.func79 rfl rfl rfl rfl (jr_check lb db mb g _) ?_
  rintro v M ⟨rfl, rfl⟩
  by_cases hd : g.down = true
  · rw [if_pos hd] at hF
    rw [if_pos hd, hF]
    refine go ?_
    exact ⟨rfl, [_], ⟨Res.tmp rfl, trivial⟩, _, ent, rfl, rfl⟩
  rw [if_neg hd] at hF ⊢
  refine go ?_
  refine WO.callE (vs := [.pointer (some ⟨lb, 0, none⟩), .slice a cs.length c]) Tryz.func101 rfl rfl rfl rfl (jr_right lb db mb g d a c cs f R hk hlog hl3 r) ?_
  rintro v M ⟨rfl, rfl⟩
  cases hc : chsR (homeN d g) cs with
  | false =>
    rw [if_pos hc] at hF
    rw [hF]
    refine go ?_
    exact ⟨rfl, [_], ⟨Res.tmp rfl, trivial⟩, _, ent, rfl, rfl⟩
  | true =>
    rw [if_neg (by rw [hc]; decide)] at hF
    by_cases hs : g.log < cs.length + 2
    · rw [if_pos hs] at hF
      rw [hF]
      have hs2 : g.hd.log < (cs.length : Int) + 2 := by omega
      refine go ?_
      exact ⟨rfl, [_], ⟨Res.tmp rfl, trivial⟩, _, ent, rfl, rfl⟩
    · rw [if_neg hs] at hF
      exact absurd hF hr
theorem wputs_take {w : Chs} {cs : Chs} {i : Nat} (h : i < cs.length) : wputs w (cs.take (i + 1)) = wput (wputs w (cs.take i)) (cs.getD i (0, [])).1 (cs.getD i (0, [])).2 := by
  rw [List.take_succ_eq_append_getElem h, List.getD_eq_getElem?_getD, List.getElem?_eq_getElem h, Option.getD_some]
  have key : ∀ (l : Chs) (w : Chs) (x : Int × Byt), wputs w (l ++ [x]) = wput (wputs w l) x.1 x.2 := by
    intro l
    induction l with
    | nil => intro w x; rfl
    | cons y l ih => intro w x; exact ih (wput w y.1 y.2) x
  exact key _ _ _
theorem jr_Done (lb db mb : Nat) (g : Lg) (d : Dv) (a : Option Addr) (c : Nat) (cs : Chs) (f : Nat → Option Addr × Nat) (R : List HP) (w : LgW g) (ok : d.Ok) (hwt : d.waits.length ≤ 1000) (hl3 : g.log + 2 ≤ d.kept.length) (hp : ∀ k, g.place k < d.kept.length) (hu : g.used + (cs.length + 2) ≤ g.log) (hsq : g.seq < 9223372036854775808) (r0 : ChR a cs f R) (hr : refP d g cs = 0) :
    TriE Tryz.prog 52 #[.pointer (some ⟨lb, 0, none⟩), .slice a cs.length c] (fun v M => v = .int .i64 (doneP d g cs).2.2 ∧ M = LgP lb db (doneP d g cs).2.1 mb :: WetH mb (doneP d g cs).2.1.wet :: DevH db (doneP d g cs).1 :: R) (LgP lb db g mb :: WetH mb g.wet :: DevH db d :: R) := by
  have hcount := r0.count
  have hk := ok.size
  have hlog := w.eq
  have hl4 := w.l4
  have hcu := w.cur
  have hF : refP d g cs = if g.down = true then 17 else if chsR (homeN d g) cs = false then 2 else if g.log < cs.length + 2 then 15 else 0 := rfl
  rw [hF] at hr
  clear hF
  have hdn : g.down = false := by
    cases hd : g.down with
    | false => rfl
    | true => rw [hd] at hr; simp at hr
  rw [hdn] at hr
  have hch : chsR (homeN d g) cs = true := by
    cases hc : chsR (homeN d g) cs with
    | true => rfl
    | false => rw [hc] at hr; simp at hr
  clear hr
  have co0 := chsR_ok hch
  have co : ChOk 4096 cs := ⟨fun i hi => ⟨(co0.n i hi).1, by have := (co0.n i hi).2; unfold homeN at this; omega⟩, co0.s, co0.l⟩
  have hD : doneP d g cs = if (layF d g cs).2 ≠ 0 then ((layF d g cs).1, { g with down := true }, (layF d g cs).2) else ((layF d g cs).1, g.more cs, 0) := rfl
  generalize doneP d g cs = D at *
  have r : ChR a cs f [SL.conj R] := r0.ent ofCj
  refine Tri.ent (M := [LgP lb db g mb, DevH db d, WetH mb g.wet, SL.conj R]) (Ent.trans (B := LgP lb db g mb :: DevH db d :: WetH mb g.wet :: R) ent (Ent.under (Ent.under (Ent.under toCj)))) ?_
  have hfin : ∀ (g2 : Lg) (d2 : Dv), Ent [LgP lb db g2 mb, WetH mb g2.wet, DevH db d2, SL.conj R] (LgP lb db g2 mb :: WetH mb g2.wet :: DevH db d2 :: R) := fun g2 d2 => Ent.under (Ent.under (Ent.under ofCj))
  clear r0
  generalize SL.conj R = C at *
  have hrl := chRow_len cs f
  refine Tri.of (N := 103) (args := [.pointer (some ⟨lb, 0, none⟩), .slice a cs.length c]) Tryz.func52 rfl rfl rfl ?_
  refine go ?_
  refine WO.callE (vs := [.pointer (some ⟨lb, 0, none⟩)]) Tryz.func79 rfl rfl rfl rfl (jr_check lb db mb g _) ?_
  rintro v M ⟨rfl, rfl⟩
  rw [hdn, if_neg (by decide)]
  refine go ?_
  refine WO.callE (vs := [.pointer (some ⟨lb, 0, none⟩), .slice a cs.length c]) Tryz.func101 rfl rfl rfl rfl (jr_right lb db mb g d a c cs f _ hk hlog hl3 r.cons) ?_
  rintro v M ⟨rfl, rfl⟩
  rw [hch]
  have hc2 : ¬ (g.hd.log < (cs.length : Int) + 2) := by omega
  refine go ?_
  refine W.drawB #[0, 1, 3, 7, 0, 31, 0, 64, 192, 448, 960, 2047] [LgP lb db g mb] [DevH db d, WetH mb g.wet, C] rfl (by kernel_rfl) (by kernel_rfl) (by kernel_rfl) ent ?_
  refine go ?_
  refine ⟨[LgP lb db g mb, DevH db d, WetH mb g.wet, C], ent, ?_⟩
  have hu2 : ¬ (g.log : Int) < (g.used : Int) + ((cs.length : Int) + 2) := by omega
  refine go ?_
  refine WO.callE (vs := [.pointer (some ⟨lb, 0, none⟩), .slice a cs.length c]) Tryz.func102 rfl rfl rfl rfl (jr_lay lb db mb g d a c cs f _ w ok hwt hp co r.cons) ?_
  rintro v M ⟨rfl, rfl⟩
  generalize layF d g cs = q at *
  obtain ⟨d2, z⟩ := q
  dsimp only at hD ⊢
  refine go ?_
  refine WO.callE (vs := [.pointer (some ⟨lb, 0, none⟩), .int .i64 z]) Tryz.func83 rfl rfl rfl rfl (jr_fell lb db mb g z _) ?_
  rintro v M ⟨rfl, rfl⟩
  rw [hdn, Bool.false_or]
  by_cases hz : z = 0
  rotate_left
  · rw [if_pos hz] at hD
    subst hD
    rw [decide_eq_true hz]
    refine go ?_
    exact ⟨rfl, [_], ⟨Res.tmp rfl, trivial⟩, _, Ent.trans ent (hfin { g with down := true } d2), rfl, rfl⟩
  subst hz
  rw [if_neg (by simp)] at hD
  subst hD
  have hgg : ({ g with down := decide ((0 : Int) ≠ 0) } : Lg) = g := by
    obtain ⟨x1, x2, x3, x4, x5, x6⟩ := g
    dsimp only at hdn
    subst hdn
    rfl
  rw [hgg]
  refine go ?_
  refine W.loopS 9444156504986987004928 rfl (fun i : Nat => [(59, .int .i64 (i : Int))]) (fun i => [LgP lb db g mb, WetH mb (wputs g.wet (cs.take i)), DevH db d2, C])
    (fun i => i ≤ cs.length) (fun i => cs.length - i) 0 ⟨rfl, trivial⟩ (Nat.zero_le _) (Ent.app (by rw [List.take_zero]; exact ent)) ?_
  intro i bg hi
  dsimp only at hi ⊢
  by_cases h9 : i < cs.length
  · have hrow := chRow_at cs f h9
    have hbs := r.bs i h9
    have hs := co.s i h9
    have htk := wputs_take (w := g.wet) h9
    unfold chV at hrow
    generalize (cs.getD i (0, [])).1 = N at *
    generalize (cs.getD i (0, [])).2 = s at *
    generalize wputs g.wet (cs.take i) = wt at *
    refine W.ent (M := [WetH mb wt, LgP lb db g mb, DevH db d2, C]) ent ?_
    refine W.wet fun fm hfm => ?_
    generalize hO : SL.conj (wt.map (wO fm)) = O
    obtain ⟨b9, o9, rfl⟩ := r.row.at (by omega)
    refine go ?_
    refine WO.sv rfl ?_
    refine SV.loadRN (k := 2) (vs := [.int .i64 N, .slice (f i).1 s.length (f i).2]) (i * 2) rfl r.row.cons.cons.cons.cons (by omega) (by decide) (by rw [hrl]; omega) hrow ?_
    refine go ?_
    intro b10
    refine go ?_
    refine W.drawB #[0, 1, 3, 7, 0, 16, 0, 64, 192, 511] [LgP lb db g mb, pts b10 (.cells [.int .i64 N, .slice (f i).1 s.length (f i).2].toArray 125)] [MapH mb (Value.int .i64) (wt.map (wV fm)), O, DevH db d2, C] rfl (by kernel_rfl) (by kernel_rfl) (by kernel_rfl) ent ?_
    refine go ?_
    refine DB.callE (vs := [.slice (f i).1 s.length (f i).2]) Tryz.func80 rfl rfl rfl rfl hl hl (TriE.ent (A := C :: [LgP lb db g mb, pts b10 (.cells [.int .i64 N, .slice (f i).1 s.length (f i).2].toArray 125), MapH mb (Value.int .i64) (wt.map (wV fm)), O, DevH db d2]) ent (sl_CloneB (f i).1 (f i).2 s _ (by omega) (hbs.ent ent))) ?_
    rintro v M ⟨a5, c5, rfl, ha5, rfl⟩
    refine ⟨[], [OS a5 c5 s, MapH mb (Value.int .i64) (wt.map (wV fm)), O, DevH db d2, C], ent, ?_⟩
    refine go ?_
    refine DB.v rfl rfl rfl hl hl ?_
    refine SV.mapPut (enc := Value.int .i64) (i := N) (v := .slice a5 s.length c5) (l := wt.map (wV fm)) rfl rfl rfl ⟨_, rfl⟩ tk ?_
    rw [hs]
    refine ⟨[], [OS a5 c5 s, MapH mb (Value.int .i64) (mset (wt.map (wV fm)) N (.slice a5 256 c5)), O, DevH db d2, C], ent, ?_⟩
    refine go ?_
    refine ⟨[MapH mb (Value.int .i64) (mset (wt.map (wV fm)) N (.slice a5 256 c5)), OS a5 c5 s, O, LgP lb db g mb, DevH db d2, C], ent, ?_⟩
    refine go ?_
    refine ⟨i + 1, ⟨rfl, trivial⟩, rfl, h9, by omega, Ent.app ?_⟩
    rw [htk, ← hO]
    exact Ent.trans (WetH.putC (v := (a5, c5)) hfm hs (by rw [hs] at ha5; exact ha5)) ent
  have hii : i = cs.length := by omega
  subst hii
  rw [List.take_length]
  refine go ?_
  refine W.drawC 15 #[0, 0, 2, 6, 14, 0, 62, 0, 128, 384, 896, 1920, 4094, 8191, 16383, 32767] [LgP lb db g mb] [WetH mb (wputs g.wet cs), DevH db d2, C] rfl (by kernel_rfl) (by kernel_rfl) (by kernel_rfl) (by kernel_rfl) rfl rfl rfl ent ?_
  refine go ?_
  have hm := Nat.mod_lt (g.cur + (cs.length + 2)) (show 0 < g.log by have := w.l3; omega)
  have he : ((g.cur : Int) + ((cs.length : Int) + 2)) % g.hd.log = (((g.cur + (cs.length + 2)) % g.log : Nat) : Int) := by rw [← hlog]; exact_mod_cast rfl
  rw [he]
  generalize hmm : (g.cur + (cs.length + 2)) % g.log = m at *
  have hfn := hfin (g.more cs) d2
  have hcu3 : (g.more cs).cur = m := hmm
  have hus3 : (((g.more cs).used : Nat) : Int) = (g.used : Int) + ((cs.length : Int) + 2) := by show ((g.used + (cs.length + 2) : Nat) : Int) = _; omega
  have hsq3 : (((g.more cs).seq : Nat) : Int) = (g.seq : Int) + 1 := by show ((g.seq + 1 : Nat) : Int) = _; omega
  unfold LgP lgL at hfn
  rw [hcu3, hus3, hsq3] at hfn
  refine ⟨_, ent, ?_⟩
  refine OW.sv ?_
  refine SV.store rfl rfl cel rfl rfl rfl frz le0 nl ?_
  refine ⟨_, Ent.refl _, ?_⟩
  refine go ?_
  exact ⟨rfl, [_], ⟨Res.tmp rfl, trivial⟩, _, hfn, rfl, by unfold LgP lgL; rw [hcu3, hus3, hsq3]⟩
end Go.SL

/- Layer 10 (journal): a block is read, walked. -/
namespace Go.SL
open Go.Proofs
set_option linter.unusedVariables false
set_option linter.unusedSimpArgs false
set_option linter.unusedSectionVars false
set_option maxRecDepth 10000
set_option maxHeartbeats 4000000
/-- What is read of a log. -/
def readL (d : Dv) (g : Lg) (n : Int) : Dv × Lg × Byt × Int :=
  if g.down = true then (d, g, [], 17) else if n < 0 ∨ (homeN d g : Int) ≤ n then (d, g, [], 2)
  else match wget g.wet n with
    | some s => (d, g, s, 0)
    | none => ((d.read (g.home n.toNat : Nat)).1, { g with down := decide ((d.read (g.home n.toNat : Nat)).2 ≠ 0) }, if (d.read (g.home n.toNat : Nat)).2 = 0 then d.now.getD (g.home n.toNat) [] else [], (d.read (g.home n.toNat : Nat)).2)
theorem WetH.rd {w : Chs} {f : WA} {k : Int} {s : Byt} {R : List HP} (hf : WFit w f) (h : wget w k = some s) : RdS 1 (f k).1 s.length (s.map u8V) (SL.conj (w.map (wO f)) :: R) := by
  obtain ⟨M, e⟩ := wO_take f (R := R) (wget_mem h)
  have hk := hf.2 _ (wget_mem h)
  exact (OS.rd (c := (f k).2) Tk.here (by have := hk.1; have := hk.2; simp_all)).ent (Ent.trans (fun h x => has_conj.1 x) e)
theorem WetH.close {mb : Nat} {w : Chs} {f : WA} (hf : WFit w f) {R : List HP} : Ent (MapH mb (Value.int .i64) (w.map (wV f)) :: SL.conj (w.map (wO f)) :: R) (WetH mb w :: R) := fun h x =>
  has_hex.2 ⟨f, has_conj.2 (has_pure.2 ⟨hf, Has.cons_of (fun _ z => has_conj.1 z) x⟩)⟩
theorem WO.wet {P : Program} {N : Nat} {ro : Option Nat} {Q : Post} {f : Frm} {L : List HP} {all : Array Oper} {todo : List Oper} {mb : Nat} {w : Chs}
    (h : ∀ fm, WFit w fm → WO P N ro all todo Q f (MapH mb (Value.int .i64) (w.map (wV fm)) :: SL.conj (w.map (wO fm)) :: L)) : WO P N ro all todo Q f (WetH mb w :: L) := by
  unfold WetH
  refine WO.exI fun fm => WO.conjI (WO.pureI fun hf => ?_)
  exact WO.ent (fun h x => Has.cons_of (Ent.conj (Ent.refl _)) x) (h fm hf)
attribute [local irreducible] W WO SV OW SW Tri Ent Tk Has Src SrcK DA DB RdS Own MapH WetH
theorem jr_ReadU (x y : Value) (L : List HP) (u : Unm x L) :
    TriE Tryz.prog 45 #[x, y] (fun v M => v = .tuple #[.slice none 0 0, .int .i64 1] ∧ M = L) L := by
  refine Tri.of (N := 52) (args := [x, y]) Tryz.func45 rfl rfl rfl ?_
  refine go ?_
  refine WO.callE (vs := [x]) Tryz.func79 rfl rfl rfl rfl (jr_checkU x L u) ?_
  rintro v M ⟨rfl, rfl⟩
  refine go ?_
  exact ⟨rfl, [_, _], ⟨Res.tmp rfl, Res.tmp rfl, trivial⟩, _, ent, rfl, rfl⟩
theorem jr_SettleU (x : Value) (L : List HP) (u : Unm x L) :
    TriE Tryz.prog 53 #[x] (fun v M => v = .int .i64 1 ∧ M = L) L := by
  refine Tri.of (N := 81) (args := [x]) Tryz.func53 rfl rfl rfl ?_
  refine go ?_
  refine WO.callE (vs := [x]) Tryz.func79 rfl rfl rfl rfl (jr_checkU x L u) ?_
  rintro v M ⟨rfl, rfl⟩
  refine go ?_
  exact ⟨rfl, [_], ⟨Res.tmp rfl, trivial⟩, _, ent, rfl, rfl⟩
theorem jr_Read (lb db mb : Nat) (g : Lg) (d : Dv) (n : Int) (R : List HP) (ok : d.Ok) (hlog : (g.log : Int) = g.hd.log) (hl3 : g.log + 2 ≤ d.kept.length) (hn : -9223372036854775808 ≤ n ∧ n ≤ 9223372036854775807) :
    TriE Tryz.prog 45 #[.pointer (some ⟨lb, 0, none⟩), .int .i64 n] (fun v M => ∃ a c, v = .tuple #[.slice a (readL d g n).2.2.1.length c, .int .i64 (readL d g n).2.2.2] ∧ SomeA a (readL d g n).2.2.1.length ∧ M = OS a c (readL d g n).2.2.1 :: LgP lb db (readL d g n).2.1 mb :: WetH mb (readL d g n).2.1.wet :: DevH db (readL d g n).1 :: R) (LgP lb db g mb :: WetH mb g.wet :: DevH db d :: R) := by
  have hk := ok.size
  have hhome : ((d.kept.length : Int) - 2 - g.hd.log) = (homeN d g : Nat) := by unfold homeN; omega
  have hF : readL d g n = if g.down = true then (d, g, [], 17) else if n < 0 ∨ (homeN d g : Int) ≤ n then (d, g, [], 2)
    else match wget g.wet n with
    | some s => (d, g, s, 0)
    | none => ((d.read (g.home n.toNat : Nat)).1, { g with down := decide ((d.read (g.home n.toNat : Nat)).2 ≠ 0) }, if (d.read (g.home n.toNat : Nat)).2 = 0 then d.now.getD (g.home n.toNat) [] else [], (d.read (g.home n.toNat : Nat)).2) := rfl
  generalize readL d g n = F at *
  refine Tri.of (N := 52) (args := [.pointer (some ⟨lb, 0, none⟩), .int .i64 n]) Tryz.func45 rfl rfl rfl ?_
  have hnil : ∀ M, Ent (LgP lb db g mb :: WetH mb g.wet :: DevH db d :: R) M → Ent (LgP lb db g mb :: WetH mb g.wet :: DevH db d :: R) (OS none 0 [] :: M) := fun M e => by unfold OS; exact Ent.ownNil e
  refine go ?_
  refine WO.callE (vs := [.pointer (some ⟨lb, 0, none⟩)]) Tryz.func79 rfl rfl rfl rfl (jr_check lb db mb g _) ?_
  rintro v M ⟨rfl, rfl⟩
  by_cases hd : g.down = true
  · rw [if_pos hd] at hF
    subst hF
    rw [if_pos hd]
    refine go ?_
    exact ⟨rfl, [_, _], ⟨Res.tmp rfl, Res.tmp rfl, trivial⟩, _, hnil _ (Ent.refl _), none, 0, rfl, fun z => absurd rfl z, rfl⟩
  rw [if_neg hd] at hF ⊢
  have hdn : g.down = false := by
    cases hq : g.down with
    | false => rfl
    | true => exact absurd hq hd
  by_cases h0 : n < 0
  · rw [if_pos (.inl h0)] at hF
    subst hF
    refine go ?_
    exact ⟨rfl, [_, _], ⟨Res.tmp rfl, Res.tmp rfl, trivial⟩, _, hnil _ (Ent.refl _), none, 0, rfl, fun z => absurd rfl z, rfl⟩
  refine go ?_
  refine WO.callE (vs := [.pointer (some ⟨lb, 0, none⟩)]) Tryz.func65 rfl rfl rfl rfl (TriE.ent (A := LgP lb db g mb :: DevH db d :: WetH mb g.wet :: R) ent (jr_Home lb db mb g d _ hk (by omega))) ?_
  rintro v M ⟨rfl, rfl⟩
  rw [hhome]
  by_cases h1 : (homeN d g : Int) ≤ n
  · rw [if_pos (.inr h1)] at hF
    subst hF
    refine go ?_
    refine ⟨rfl, [_, _], ⟨Res.tmp rfl, Res.tmp rfl, trivial⟩, OS none 0 [] :: LgP lb db g mb :: WetH mb g.wet :: DevH db d :: R, ?_, none, 0, rfl, fun z => absurd rfl z, rfl⟩
    unfold OS
    exact Ent.ownNil ent
  rw [if_neg (by omega)] at hF
  obtain ⟨m, rfl⟩ : ∃ m : Nat, n = m := ⟨n.toNat, by omega⟩
  rw [Int.toNat_natCast] at hF
  have hln : g.log ≤ 4096 := by omega
  refine WO.ent (M := WetH mb g.wet :: LgP lb db g mb :: DevH db d :: R) ent ?_
  refine WO.wet fun fm hfm => ?_
  have hrd := fun (s : Byt) (q : wget g.wet (m : Int) = some s) => WetH.rd (R := []) hfm q
  have hcl := WetH.close (mb := mb) (R := LgP lb db g mb :: DevH db d :: R) hfm
  have hcl2 := fun R => WetH.close (mb := mb) (R := R) hfm
  have hmg := mget_wV fm g.wet m
  generalize SL.conj (g.wet.map (wO fm)) = O at *
  generalize g.wet.map (wV fm) = ml at *
  refine go ?_
  refine WO.sv rfl ?_
  refine SV.lookup2 (enc := Value.int .i64) (i := (m : Int)) (z := .slice none 0 0) rfl rfl ⟨_, rfl⟩ (by kernel_rfl) tk ?_
  rw [hmg]
  cases hw : wget g.wet (m : Int) with
  | some s =>
    rw [hw] at hF
    dsimp only at hF
    subst hF
    have h256 : s.length = 256 := (hfm.2 _ (wget_mem hw)).2
    have hr2 := hrd _ hw
    dsimp only [Option.map, Option.getD, Option.isSome]
    rw [← h256]
    refine go ?_
    refine WO.callE (vs := [.slice (fm m).1 s.length (fm m).2]) Tryz.func80 rfl rfl rfl rfl (sl_CloneB (fm m).1 (fm m).2 s _ (by omega) (hr2.ent ent)) ?_
    rintro v M ⟨a, c, rfl, ha, rfl⟩
    refine go ?_
    exact ⟨rfl, [_, _], ⟨Res.tmp rfl, Res.tmp rfl, trivial⟩, OS a c s :: LgP lb db g mb :: WetH mb g.wet :: DevH db d :: R, Ent.trans (Ent.trans ent (hcl2 (OS a c s :: LgP lb db g mb :: DevH db d :: R))) ent, a, c, rfl, ha, rfl⟩
  | none =>
    rw [hw] at hF
    dsimp only at hF
    subst hF
    dsimp only [Option.map, Option.getD, Option.isSome]
    refine go ?_
    refine W.ent (M := LgP lb db g mb :: WetH mb g.wet :: DevH db d :: R) (Ent.trans (Ent.trans ent hcl) ent) ?_
    refine W.drawB #[0, 1, 3, 7, 0, 0, 48, 127, 255, 511, 511, 1023, 4095] [LgP lb db g mb] (WetH mb g.wet :: DevH db d :: R) rfl (by kernel_rfl) (by kernel_rfl) (by kernel_rfl) ent ?_
    refine go ?_
    refine DB.callE (vs := [.pointer (some ⟨lb, 0, none⟩), .int .i64 m]) Tryz.func82 rfl rfl rfl rfl hl hl (jr_home lb db mb m g _ hln hlog (by omega)) ?_
    rintro v M ⟨rfl, rfl⟩
    refine ⟨[], WetH mb g.wet :: DevH db d :: R, ent, ?_⟩
    refine go ?_
    refine DB.callE (vs := [.pointer (some ⟨db, 0, none⟩), .int .i64 (g.home m : Nat)]) Tryz.func81 rfl rfl rfl rfl hl hl (TriE.ent (A := DevH db d :: LgP lb db g mb :: WetH mb g.wet :: R) ent (dv_Read db d (g.home m : Nat) _ ok)) ?_
    rintro v M (⟨he, rfl, rfl⟩ | ⟨he, a, c, rfl, ha, rfl⟩)
    · refine ⟨[], WetH mb g.wet :: DevH db (d.read (g.home m : Nat)).1 :: R, ent, ?_⟩
      refine go ?_
      refine ⟨LgP lb db g mb :: WetH mb g.wet :: DevH db (d.read (g.home m : Nat)).1 :: R, ent, ?_⟩
      generalize d.read (g.home m : Nat) = q at *
      obtain ⟨d2, z⟩ := q
      dsimp only at he ⊢
      refine go ?_
      refine WO.callE (vs := [.pointer (some ⟨lb, 0, none⟩), .int .i64 z]) Tryz.func83 rfl rfl rfl rfl (jr_fell lb db mb g z _) ?_
      rintro v M ⟨rfl, rfl⟩
      rw [hdn, Bool.false_or, if_neg he]
      refine go ?_
      refine ⟨rfl, [_, _], ⟨Res.tmp rfl, Res.tmp rfl, trivial⟩, OS none 0 [] :: LgP lb db { g with down := decide (z ≠ 0) } mb :: WetH mb g.wet :: DevH db d2 :: R, ?_, none, 0, rfl, fun z => absurd rfl z, rfl⟩
      unfold OS
      exact Ent.ownNil ent
    · refine ⟨[], OS a c (d.now.getD (g.home m) []) :: WetH mb g.wet :: DevH db (d.read (g.home m : Nat)).1 :: R, ent, ?_⟩
      refine go ?_
      refine ⟨LgP lb db g mb :: OS a c (d.now.getD (g.home m) []) :: WetH mb g.wet :: DevH db (d.read (g.home m : Nat)).1 :: R, ent, ?_⟩
      have h256 := now256 ok (n := g.home m) (by unfold Lg.home; omega)
      generalize d.now.getD (g.home m) [] = s at *
      generalize d.read (g.home m : Nat) = q at *
      obtain ⟨d2, z⟩ := q
      obtain rfl : z = 0 := he
      rw [if_pos rfl]
      rw [← h256] at ha ⊢
      refine go ?_
      refine WO.callE (vs := [.pointer (some ⟨lb, 0, none⟩), .int .i64 0]) Tryz.func83 rfl rfl rfl rfl (jr_fell lb db mb g 0 _) ?_
      rintro v M ⟨rfl, rfl⟩
      rw [hdn, Bool.false_or]
      refine go ?_
      exact ⟨rfl, [_, _], ⟨Res.tmp rfl, Res.tmp rfl, trivial⟩, OS a c s :: LgP lb db { g with down := decide ((0 : Int) ≠ 0) } mb :: WetH mb g.wet :: DevH db d2 :: R, ent, a, c, rfl, ha, rfl⟩
end Go.SL

/- Layer 10 (journal): a transaction is read, walked. -/
namespace Go.SL
open Go.Proofs
set_option linter.unusedVariables false
set_option linter.unusedSimpArgs false
set_option linter.unusedSectionVars false
set_option maxRecDepth 10000
set_option maxHeartbeats 4000000
/-- A change, and where its bytes lie. -/
abbrev QCh := (Int × Byt) × (Option Addr × Nat)
def qV (x : QCh) : List Value := [.int .i64 x.1.1, .slice x.2.1 x.1.2.length x.2.2]
def qO (x : QCh) : HP := OS x.2.1 x.2.2 x.1.2
structure QOk (x : QCh) : Prop where
  s : x.1.2.length = 256
  a : SomeA x.2.1 x.1.2.length
  n : 0 ≤ x.1.1 ∧ x.1.1 < 65536
/-- A row of changes of the call's own, with their bytes. -/
abbrev OC (a : Option Addr) (c : Nat) (xs : List QCh) : HP := Own 125 2 (.slice a xs.length c) xs.length (xs.flatMap qV)
def qF (xs : List QCh) (i : Nat) : Option Addr × Nat := (xs.getD i ((0, []), (none, 0))).2
theorem qRow (xs : List QCh) : chRow (xs.map (·.1)) (qF xs) = xs.flatMap qV := by
  have key : ∀ n, n ≤ xs.length → (List.range n).flatMap (chV (xs.map (·.1)) (qF xs)) = (xs.take n).flatMap qV := by
    intro n
    induction n with
    | zero => intro _; rfl
    | succ n ih =>
      intro h
      rw [List.range_succ, List.flatMap_append, ih (by omega), List.take_succ_eq_append_getElem (by omega), List.flatMap_append]
      congr 1
      simp [chV, qF, qV, show n < xs.length by omega]
  have := key xs.length (Nat.le_refl _)
  rw [List.take_length] at this
  unfold chRow
  rw [List.length_map]
  exact this
theorem qRow_len (xs : List QCh) : (xs.flatMap qV).length = xs.length * 2 := by
  rw [← qRow, chRow_len, List.length_map]
theorem qO_take : ∀ {w : List QCh} {p : QCh} {R : List HP}, p ∈ w → ∃ M, Ent (w.map qO ++ R) (qO p :: M)
  | [], p, R, h => by cases h
  | q :: l, p, R, h => by
    rcases List.mem_cons.1 h with rfl | h
    · exact ⟨l.map qO ++ R, Ent.refl _⟩
    · obtain ⟨M, e⟩ := qO_take (R := R) h
      exact ⟨qO q :: M, fun hp x => Has.swap (Has.cons_of e x)⟩
theorem qR (a : Option Addr) (c : Nat) (xs : List QCh) (hx : ∀ x ∈ xs, QOk x) (ha : xs.length ≠ 0 → ∃ b, a = some ⟨b, 0, none⟩) (hc : xs.length ≤ 1000000) {L : List HP} : ChR a (xs.map (·.1)) (qF xs) (OC a c xs :: SL.conj (xs.map qO) :: L) := by
  have hg : ∀ i, i < (xs.map (·.1)).length → ∃ x ∈ xs, (xs.map (·.1)).getD i (0, []) = x.1 ∧ qF xs i = x.2 := fun i hi => by
    rw [List.length_map] at hi
    exact ⟨xs[i], List.getElem_mem hi, by simp [hi], by simp [qF, hi]⟩
  refine ⟨?_, fun i hi => ?_, fun i hi => ?_, fun i hi => ?_, by simpa using hc⟩
  · rw [qRow, List.length_map]
    exact RdS.own Tk.here ha (qRow_len xs)
  · obtain ⟨x, hm, e1, e2⟩ := hg i hi
    rw [e1, e2]
    obtain ⟨M, e⟩ := qO_take (R := L) hm
    exact ((OS.rd (c := x.2.2) Tk.here (hx x hm).a).ent (Ent.trans (fun h x => has_conj.1 x) e)).cons
  · obtain ⟨x, hm, e1, e2⟩ := hg i hi
    rw [e1, (hx x hm).s]; decide
  · obtain ⟨x, hm, e1, e2⟩ := hg i hi
    have := (hx x hm).n
    rw [e1]; omega
theorem qsnoc (x : QCh) (xs : List QCh) (R : List HP) : Ent (qO x :: SL.conj (xs.map qO) :: R) (SL.conj ((xs ++ [x]).map qO) :: R) := fun h y => by
  rw [List.map_append]
  refine has_conj.2 ?_
  have key : ∀ (l : List HP) (a : HP) (R : List HP), Ent (a :: (l ++ R)) ((l ++ [a]) ++ R) := by
    intro l
    induction l with
    | nil => intro a R; exact Ent.refl _
    | cons b l ih => intro a R; exact fun h z => Has.cons_of (ih a R) z.swap
  exact key _ _ _ _ (Has.cons_of (fun _ z => has_conj.1 z) y)
theorem wrapx (x : UInt8) : IntKind.wrap .i64 (x.toNat : Int) = (x.toNat : Int) := by
  have := x.toNat_lt
  exact wI
theorem shl8i (x : UInt8) : IntKind.wrap .i64 (IntKind.wrap .i64 (x.toNat : Int) * 2 ^ (min ((8 : Int)).toNat (IntKind.bits .i64))) = ((x.toNat * 256 : Nat) : Int) := by
  have e : min ((8 : Int)).toNat (IntKind.bits .i64) = 8 := by decide
  have := x.toNat_lt
  rw [wrapx, e, show ((x.toNat : Int) * 2 ^ 8) = ((x.toNat * 256 : Nat) : Int) by omega]
  have : x.toNat * 256 < 65536 := by omega
  generalize x.toNat * 256 = m at *
  exact wI
theorem or8i (x y : UInt8) : IntKind.wrap .i64 (((((x.toNat * 256 : Nat) : Int) % 2 ^ IntKind.bits .i64).toNat ||| (IntKind.wrap .i64 (y.toNat : Int) % 2 ^ IntKind.bits .i64).toNat : Nat) : Int) = ((x.toNat * 256 + y.toNat : Nat) : Int) := by
  have h1 := x.toNat_lt
  have h2 := y.toNat_lt
  have e : IntKind.bits .i64 = 64 := rfl
  have a1 : (((x.toNat * 256 : Nat) : Int) % 2 ^ 64) = ((x.toNat * 256 : Nat) : Int) := by omega
  have a2 : ((y.toNat : Int) % 2 ^ 64) = (y.toNat : Int) := by omega
  have h3 := Nat.shiftLeft_add_eq_or_of_lt (i := 8) (b := y.toNat) (by omega) x.toNat
  rw [Nat.shiftLeft_eq, show x.toNat * 2 ^ 8 = x.toNat * 256 by omega] at h3
  rw [wrapx, e, a1, a2, Int.toNat_natCast, Int.toNat_natCast, ← h3]
  have : x.toNat * 256 + y.toNat < 65536 := by omega
  generalize x.toNat * 256 + y.toNat = m at *
  exact wI
end Go.SL

/- Layer 10 (journal): a transaction is read, walked. -/
namespace Go.SL
open Go.Proofs
set_option linter.unusedVariables false
set_option linter.unusedSimpArgs false
set_option linter.unusedSectionVars false
set_option maxRecDepth 10000
set_option maxHeartbeats 4000000
theorem read_step (d : Dv) (ok : d.Ok) (n : Int) : (d.read n).1.Ok ∧ (d.read n).1.kept.length = d.kept.length ∧ (d.read n).1.waits = d.waits ∧ (d.read n).1.now = d.now := by
  unfold Dv.read
  exact ⟨Dv.call_ok ok _, by simp, by simp, by simp⟩
theorem opened_step (d : Dv) (ok : d.Ok) (g : Lg) (k : Nat) (kind : UInt8) : (openedP d g k kind).1.Ok ∧ (openedP d g k kind).1.kept.length = d.kept.length ∧ (openedP d g k kind).1.waits = d.waits ∧ (openedP d g k kind).1.now = d.now ∧ (openedP d g k kind).2.1.length ≤ 256 := by
  have h := read_step d ok (g.place k : Nat)
  unfold openedP
  split
  · exact ⟨h.1, h.2.1, h.2.2.1, h.2.2.2, by simp⟩
  · exact ⟨h.1, h.2.1, h.2.2.1, h.2.2.2, rB_len _⟩
attribute [local irreducible] W WO SV OW SW Tri Ent Tk Has Src SrcK DA DB RdS Own MapH WetH
theorem jr_one (lb db mb p : Nat) (g : Lg) (d : Dv) (R : List HP) (w : LgW g) (ok : d.Ok) (hp : ∀ k, g.place k < d.kept.length) (hk2 : g.log + 2 ≤ d.kept.length) (hpl : p ≤ g.log) :
    TriE Tryz.prog 157 #[.pointer (some ⟨lb, 0, none⟩), .int .i64 p] (fun v M =>
      ((oneP d g p).2.1 = none ∧ v = .tuple #[.slice none 0 0, .int .i64 (oneP d g p).2.2] ∧ M = LgP lb db g mb :: DevH db (oneP d g p).1 :: R) ∨
      (∃ a c xs, (oneP d g p).2.1 = some (xs.map (·.1)) ∧ (oneP d g p).2.2 = 0 ∧ xs.length ≠ 0 ∧ xs.length + 2 ≤ p ∧ (xs.length ≠ 0 → ∃ b, a = some ⟨b, 0, none⟩) ∧ v = .tuple #[.slice a xs.length c, .int .i64 0] ∧ (∀ x ∈ xs, QOk x) ∧ M = OC a c xs :: SL.conj (xs.map qO) :: LgP lb db g mb :: DevH db (oneP d g p).1 :: R)) (LgP lb db g mb :: DevH db d :: R) := by
  have hk := ok.size
  have hlog := w.eq
  have hl4 := w.l4
  refine Tri.of (N := 128) (args := [.pointer (some ⟨lb, 0, none⟩), .int .i64 p]) Tryz.func157 rfl rfl rfl ?_
  refine go ?_
  refine WO.callE (vs := [.pointer (some ⟨lb, 0, none⟩), .int .i64 (0 : Nat), u8V 1]) Tryz.func183 rfl rfl rfl rfl (jr_opened lb db mb 0 g d 1 R w (by decide) (hp 0) ok) ?_
  rintro v M ⟨a0, c0, rfl, ha0, rfl⟩
  have st := opened_step d ok g 0 1
  have hO : oneP d g p = if (openedP d g 0 1).2.2.2 ≠ 0 ∨ (openedP d g 0 1).2.2.1 = false ∨ (openedP d g 0 1).2.1.length = 0 ∨ (openedP d g 0 1).2.1.length % 3 ≠ 0 ∨ p < (openedP d g 0 1).2.1.length / 3 + 2 then ((openedP d g 0 1).1, none, (openedP d g 0 1).2.2.2)
    else match barL g (openedP d g 0 1).2.1 (openedP d g 0 1).1 ((openedP d g 0 1).2.1.length / 3) 0 [] with
    | (d, none, e) => (d, none, e)
    | (d, some c, _) => if (openedP d g (1 + c.length) 2).2.2.2 ≠ 0 ∨ (openedP d g (1 + c.length) 2).2.2.1 = false ∨ (openedP d g (1 + c.length) 2).2.1.length ≠ 0 ∨ chsR (homeN d g) c = false then ((openedP d g (1 + c.length) 2).1, none, (openedP d g (1 + c.length) 2).2.2.2)
      else ((openedP d g (1 + c.length) 2).1, some c, 0) := rfl
  generalize openedP d g 0 1 = q at *
  generalize oneP d g p = F at *
  obtain ⟨d1, b, is, e⟩ := q
  dsimp only at st hO ha0 ⊢
  obtain ⟨ok1, hk1, -, hn1, hbl⟩ := st
  by_cases hc : e ≠ 0 ∨ is = false ∨ b.length = 0 ∨ b.length % 3 ≠ 0 ∨ p < b.length / 3 + 2
  · rw [if_pos hc] at hO
    subst hO
    by_cases c1 : e = 0
    rotate_left
    · refine go ?_
      exact ⟨rfl, [_, _], ⟨Res.tmp rfl, Res.tmp rfl, trivial⟩, LgP lb db g mb :: DevH db d1 :: R, ent, .inl ⟨rfl, rfl, rfl⟩⟩
    subst c1
    cases is with
    | false =>
      refine go ?_
      exact ⟨rfl, [_, _], ⟨Res.tmp rfl, Res.tmp rfl, trivial⟩, LgP lb db g mb :: DevH db d1 :: R, ent, .inl ⟨rfl, rfl, rfl⟩⟩
    | true =>
      by_cases c3 : b.length = 0
      · refine go ?_
        exact ⟨rfl, [_, _], ⟨Res.tmp rfl, Res.tmp rfl, trivial⟩, LgP lb db g mb :: DevH db d1 :: R, ent, .inl ⟨rfl, rfl, rfl⟩⟩
      by_cases c4 : b.length % 3 ≠ 0
      · have c4' : ((b.length : Int) % 3) ≠ 0 := by omega
        refine go ?_
        exact ⟨rfl, [_, _], ⟨Res.tmp rfl, Res.tmp rfl, trivial⟩, LgP lb db g mb :: DevH db d1 :: R, ent, .inl ⟨rfl, rfl, rfl⟩⟩
      · have c5 : p < b.length / 3 + 2 := by
          rcases hc with h | h | h | h | h
          · exact absurd rfl h
          · cases h
          · exact absurd h c3
          · exact absurd h c4
          · exact h
        have c5' : (p : Int) < ((b.length : Int) / 3) + 2 := by omega
        refine go ?_
        exact ⟨rfl, [_, _], ⟨Res.tmp rfl, Res.tmp rfl, trivial⟩, LgP lb db g mb :: DevH db d1 :: R, ent, .inl ⟨rfl, rfl, rfl⟩⟩
  rw [if_neg hc] at hO
  obtain ⟨rfl, his, c3, c4, c5⟩ : e = 0 ∧ is = true ∧ b.length ≠ 0 ∧ b.length % 3 = 0 ∧ b.length / 3 + 2 ≤ p := by
    refine ⟨Classical.byContradiction fun h => hc (.inl h), ?_, fun h => hc (.inr (.inr (.inl h))), Classical.byContradiction fun h => hc (.inr (.inr (.inr (.inl h)))), Classical.byContradiction fun h => hc (.inr (.inr (.inr (.inr (by omega)))))⟩
    cases is with
    | true => rfl
    | false => exact absurd (.inr (.inl rfl)) hc
  subst his
  clear hc
  obtain ⟨n, hbn⟩ : ∃ n, b.length = 3 * n := ⟨b.length / 3, by omega⟩
  rw [show b.length / 3 = n by omega] at hO c5
  have e1 : ((b.length : Int) % 3) = 0 := by omega
  have e2 : ((b.length : Int) / 3) = n := by omega
  have hb0 : b.length ≠ 0 := c3
  refine go ?_
  refine W.loopS 1267650600228229120021726527024 rfl (fun q : Nat × List QCh × Dv × Option Addr × Nat => [(10, .int .i64 ((3 * q.1 : Nat) : Int)), (9, .slice q.2.2.2.1 q.2.1.length q.2.2.2.2)]) (fun q => OC q.2.2.2.1 q.2.2.2.2 q.2.1 :: SL.conj (q.2.1.map qO) :: OS a0 c0 b :: LgP lb db g mb :: DevH db q.2.2.1 :: R)
    (fun q => q.1 ≤ n ∧ q.2.2.1.Ok ∧ q.2.2.1.kept.length = d.kept.length ∧ q.2.1.length = q.1 ∧ (∀ x ∈ q.2.1, QOk x) ∧ (q.2.1.length ≠ 0 → ∃ b, q.2.2.2.1 = some ⟨b, 0, none⟩) ∧ barL g b q.2.2.1 (n - q.1) q.1 (q.2.1.map (·.1)) = barL g b d1 n 0 []) (fun q => n - q.1) (0, [], d1, none, 0) ⟨rfl, rfl, trivial⟩ ⟨Nat.zero_le _, ok1, hk1, rfl, fun x hx => (List.not_mem_nil hx).elim, fun z => absurd rfl z, rfl⟩ (Ent.app (Ent.ownNil (Ent.conj ent))) ?_
  clear ok1 hk1 hn1
  generalize hBe : barL g b d1 n 0 [] = Be at *
  rintro ⟨i, xs, d2, a1, c1⟩ bg ⟨hi, ok2, hk2', hxl, hq, ha1, he⟩
  dsimp only at hi ok2 hk2' hxl hq ha1 he ⊢
  by_cases h9 : i < n
  · have h9' : ((3 * i : Nat) : Int) < b.length := by omega
    obtain ⟨f, hf⟩ : ∃ f, n - i = f + 1 := ⟨n - i - 1, by omega⟩
    have hst : barL g b d2 (f + 1) i (xs.map (·.1)) = if (d2.read (g.place (1 + i) : Nat)).2 ≠ 0 then ((d2.read (g.place (1 + i) : Nat)).1, none, (d2.read (g.place (1 + i) : Nat)).2)
      else if (d2.now.getD (g.place (1 + i)) []).getD 0 0 ≠ 3 then ((d2.read (g.place (1 + i) : Nat)).1, none, 0)
      else barL g b (d2.read (g.place (1 + i) : Nat)).1 f (i + 1) (xs.map (·.1) ++ [((((b.getD (3 * i) 0).toNat * 256 + (b.getD (3 * i + 1) 0).toNat : Nat) : Int), (d2.now.getD (g.place (1 + i)) []).set 0 (b.getD (3 * i + 2) 0))]) := rfl
    rw [hf, hst] at he
    clear hst
    have hpk := hp (1 + i)
    have h256 := now256 ok2 (n := g.place (1 + i)) (by omega)
    have rst := read_step d2 ok2 (g.place (1 + i) : Nat)
    have g0 : (b.map u8V)[3 * i]? = some (u8V (b.getD (3 * i) 0)) := by simp [show 3 * i < b.length by omega]
    have g1 : (b.map u8V)[3 * i + 1]? = some (u8V (b.getD (3 * i + 1) 0)) := by simp [show 3 * i + 1 < b.length by omega]
    have g2 : (b.map u8V)[3 * i + 2]? = some (u8V (b.getD (3 * i + 2) 0)) := by simp [show 3 * i + 2 < b.length by omega]
    generalize b.getD (3 * i) 0 = y0 at *
    generalize b.getD (3 * i + 1) 0 = y1 at *
    generalize b.getD (3 * i + 2) 0 = y2 at *
    have hT : ((g.place (1 + i) : Nat) : Int).toNat = g.place (1 + i) := rfl
    obtain ⟨bb, hab⟩ := ha0 hb0
    subst hab
    refine go ?_
    refine W.drawB #[0, 1, 3, 7, 0, 0, 32, 96, 240, 511, 1023, 2047, 2047, 4095, 16383] [LgP lb db g mb] (OC a1 c1 xs :: SL.conj (xs.map qO) :: OS (some ⟨bb, 0, none⟩) c0 b :: DevH db d2 :: R) rfl (by kernel_rfl) (by kernel_rfl) (by kernel_rfl) ent ?_
    refine go ?_
    rw [show (1 : Int) + ((3 * i : Nat) : Int) / 3 = ((1 + i : Nat) : Int) by omega]
    refine DB.callE (vs := [.pointer (some ⟨lb, 0, none⟩), .int .i64 (1 + i : Nat)]) Tryz.func154 rfl rfl rfl rfl hl hl (jr_place lb db mb (1 + i) g _ w.l3 w.l4 w.eq w.cur (by omega)) ?_
    rintro v M ⟨rfl, rfl⟩
    refine ⟨[], OC a1 c1 xs :: SL.conj (xs.map qO) :: OS (some ⟨bb, 0, none⟩) c0 b :: DevH db d2 :: R, ent, ?_⟩
    refine go ?_
    refine DB.callE (vs := [.pointer (some ⟨db, 0, none⟩), .int .i64 (g.place (1 + i) : Nat)]) Tryz.func81 rfl rfl rfl rfl hl hl (TriE.ent (A := DevH db d2 :: OC a1 c1 xs :: SL.conj (xs.map qO) :: OS (some ⟨bb, 0, none⟩) c0 b :: LgP lb db g mb :: R) ent (dv_Read db d2 (g.place (1 + i) : Nat) _ ok2)) ?_
    rintro v M (⟨hz, rfl, rfl⟩ | ⟨hz, a2, c2, rfl, ha2, rfl⟩)
    · rw [if_pos hz] at he
      generalize d2.read (g.place (1 + i) : Nat) = q at *
      obtain ⟨d3, z⟩ := q
      dsimp only at he hz ⊢
      subst he
      dsimp only at hO
      subst hO
      refine ⟨[], OC a1 c1 xs :: SL.conj (xs.map qO) :: OS (some ⟨bb, 0, none⟩) c0 b :: DevH db d3 :: R, ent, ?_⟩
      refine go ?_
      refine ⟨LgP lb db g mb :: DevH db d3 :: R, ent, ?_⟩
      refine go ?_
      exact ⟨rfl, [_, _], ⟨Res.tmp rfl, Res.tmp rfl, trivial⟩, LgP lb db g mb :: DevH db d3 :: R, ent, .inl ⟨rfl, rfl, rfl⟩⟩
    rw [if_neg (by simpa using hz)] at he
    rw [hT] at *
    have hn3 : (d2.read (g.place (1 + i) : Nat)).1.kept.length = d.kept.length := by rw [rst.2.1, hk2']
    generalize d2.now.getD (g.place (1 + i)) [] = s at *
    generalize d2.read (g.place (1 + i) : Nat) = q at *
    obtain ⟨d3, z⟩ := q
    obtain rfl : z = 0 := hz
    dsimp only at he rst hn3 ⊢
    refine ⟨[], OS a2 c2 s :: OC a1 c1 xs :: SL.conj (xs.map qO) :: OS (some ⟨bb, 0, none⟩) c0 b :: DevH db d3 :: R, ent, ?_⟩
    refine go ?_
    refine ⟨OS a2 c2 s :: OC a1 c1 xs :: SL.conj (xs.map qO) :: OS (some ⟨bb, 0, none⟩) c0 b :: LgP lb db g mb :: DevH db d3 :: R, ent, ?_⟩
    refine go ?_
    refine WO.sv rfl ?_
    refine SV.loadR (3 * i + 2) rfl (OS.rd tk ha0) (by omega) g2 ?_
    refine go ?_
    refine WO.callE (vs := [.slice a2 s.length c2, u8V y2]) Tryz.func184 rfl rfl (by rw [h256]; rfl) rfl (mk_Bare (OS a2 c2 s) a2 c2 s y2 _ (by omega) (OS.rd Tk.here (by rw [h256]; exact ha2))) ?_
    rintro v M (⟨h, _⟩ | ⟨_, h3, rfl, rfl⟩ | ⟨_, h3, a3, c3', rfl, ha3, rfl⟩)
    · exact absurd h256 h
    · rw [if_pos h3] at he
      subst he
      dsimp only at hO
      subst hO
      refine go ?_
      exact ⟨rfl, [_, _], ⟨Res.tmp rfl, Res.tmp rfl, trivial⟩, LgP lb db g mb :: DevH db d3 :: R, ent, .inl ⟨rfl, rfl, rfl⟩⟩
    rw [if_neg (by simpa using h3)] at he
    have hs3 : (s.set 0 y2).length = 256 := by rw [List.length_set, h256]
    generalize s.set 0 y2 = s3 at *
    refine go ?_
    refine W.drawB #[0, 0, 0, 6, 14, 30, 62, 0, 0, 256, 896, 1920, 3968, 8190, 0, 32766, 65534, 131071, 262143] [OS (some ⟨bb, 0, none⟩) c0 b] (OS a3 c3' s3 :: OC a1 c1 xs :: SL.conj (xs.map qO) :: LgP lb db g mb :: DevH db d3 :: R) rfl (by kernel_rfl) (by kernel_rfl) (by kernel_rfl) ent ?_
    refine go ?_
    refine DB.q (v := u8V y0) rfl rfl hl (SV.loadR (3 * i) rfl (OS.rd Tk.here ha0) (by omega) g0 eqq) ?_
    refine go ?_
    refine DB.q (v := .int .i64 ((y0.toNat * 256 : Nat) : Int)) rfl rfl hl (SV.shl rfl rfl (by decide) (shl8i y0) eqq) ?_
    refine go ?_
    refine DB.q (v := u8V y1) rfl rfl hl (SV.loadR (3 * i + 1) rfl (OS.rd Tk.here ha0) (by omega) g1 eqq) ?_
    refine go ?_
    refine DB.q (v := .int .i64 ((y0.toNat * 256 + y1.toNat : Nat) : Int)) rfl rfl hl (SV.bor rfl rfl (or8i y0 y1) eqq) ?_
    refine go ?_
    refine DB.lit rfl rfl rfl parts rfl nl rfl rfl ?_
    intro b2
    refine go ?_
    refine DB.v rfl rfl rfl hl hl ?_
    refine SV.append rfl rfl rfl tk (RdS.src (RdS.all (sz := 2) (n := 1) rfl).cons) rfl rfl (by omega) rfl ?_
    intro a4 c4 ha4
    have hqx : QOk (((((y0.toNat * 256 + y1.toNat : Nat) : Int), s3), (a3, c3')) : QCh) := by
      have := y0.toNat_lt
      have := y1.toNat_lt
      exact ⟨hs3, ha3, by dsimp only; omega⟩
    have hqa : ∀ R, Ent (OS a3 c3' s3 :: SL.conj (xs.map qO) :: R) (SL.conj ((xs ++ [(((((y0.toNat * 256 + y1.toNat : Nat) : Int), s3), (a3, c3')) : QCh)]).map qO) :: R) := fun R => qsnoc (((((y0.toNat * 256 + y1.toNat : Nat) : Int), s3), (a3, c3')) : QCh) xs R
    have hqf : (xs ++ [(((((y0.toNat * 256 + y1.toNat : Nat) : Int), s3), (a3, c3')) : QCh)]).flatMap qV = xs.flatMap qV ++ [Value.int IntKind.i64 ((y0.toNat * 256 + y1.toNat : Nat) : Int), Value.slice a3 s3.length c3'] := by
      rw [List.flatMap_append]; rfl
    have hqm : (xs ++ [(((((y0.toNat * 256 + y1.toNat : Nat) : Int), s3), (a3, c3')) : QCh)]).map (·.1) = xs.map (·.1) ++ [(((y0.toNat * 256 + y1.toNat : Nat) : Int), s3)] := by
      rw [List.map_append]; rfl
    have hql : (xs ++ [(((((y0.toNat * 256 + y1.toNat : Nat) : Int), s3), (a3, c3')) : QCh)]).length = xs.length + 1 := by simp
    generalize hx2 : xs ++ [(((((y0.toNat * 256 + y1.toNat : Nat) : Int), s3), (a3, c3')) : QCh)] = xs2 at *
    have hq2 : ∀ x ∈ xs2, QOk x := by
      intro x hx
      rw [← hx2] at hx
      rcases List.mem_append.1 hx with h | h
      · exact hq x h
      · rw [List.mem_singleton.1 h]; exact hqx
    rw [← hqf, ← hql]
    refine ⟨[], OC a4 c4 xs2 :: OS a3 c3' s3 :: SL.conj (xs.map qO) :: LgP lb db g mb :: DevH db d3 :: R, ent, ?_⟩
    refine go ?_
    refine ⟨OS a3 c3' s3 :: SL.conj (xs.map qO) :: OC a4 c4 xs2 :: OS (some ⟨bb, 0, none⟩) c0 b :: LgP lb db g mb :: DevH db d3 :: R, ent, ?_⟩
    refine go ?_
    refine ⟨(i + 1, xs2, d3, a4, c4), ⟨?_, rfl, trivial⟩, rfl, ⟨h9, rst.1, by dsimp only; rw [hn3], by dsimp only; omega, hq2, fun z => ha4 (by omega), ?_⟩, by dsimp only; omega, Ent.app (Ent.trans (hqa _) ent)⟩
    · show Value.int _ _ = Value.int _ _
      congr 1
    · dsimp only
      rw [show n - (i + 1) = f by omega, hqm]
      exact he
  obtain rfl : i = n := by omega
  rw [Nat.sub_self] at he
  have he' : Be = (d2, some (xs.map (·.1)), 0) := he.symm
  subst he'
  dsimp only at hO
  rw [List.length_map] at hO
  have st2 := opened_step d2 ok2 g (1 + xs.length) 2
  have hch : ChR a1 (xs.map (·.1)) (qF xs) (OC a1 c1 xs :: SL.conj (xs.map qO) :: R) := qR a1 c1 xs hq ha1 (by omega)
  have hlm : (xs.map (·.1)).length = xs.length := by simp
  have h9' : ¬ (((3 * i : Nat) : Int) < b.length) := by omega
  have hbl2 : (b.length : Int) ≤ ((3 * i : Nat) : Int) := by omega
  refine go ?_
  rw [show (1 : Int) + (xs.length : Int) = ((1 + xs.length : Nat) : Int) by omega]
  refine WO.callE (vs := [.pointer (some ⟨lb, 0, none⟩), .int .i64 (1 + xs.length : Nat), u8V 2]) Tryz.func183 rfl rfl rfl rfl (TriE.ent (A := LgP lb db g mb :: DevH db d2 :: OC a1 c1 xs :: SL.conj (xs.map qO) :: R) ent (jr_opened lb db mb (1 + xs.length) g d2 2 _ w (by omega) (by rw [hk2']; exact hp _) ok2)) ?_
  rintro v M ⟨a5, c5, rfl, ha5, rfl⟩
  have hhn : homeN d2 g = homeN (openedP d2 g (1 + xs.length) 2).1 g := by unfold homeN; rw [st2.2.1]
  rw [hhn] at hO
  have hkq : (openedP d2 g (1 + xs.length) 2).1.kept.length = d.kept.length := by rw [st2.2.1, hk2']
  generalize openedP d2 g (1 + xs.length) 2 = q at *
  obtain ⟨d3, b3, is3, e3⟩ := q
  dsimp only at st2 hO ha5 hkq ⊢
  by_cases f1 : e3 = 0
  rotate_left
  · rw [if_pos (.inl f1)] at hO
    subst hO
    refine go ?_
    exact ⟨rfl, [_, _], ⟨Res.tmp rfl, Res.tmp rfl, trivial⟩, LgP lb db g mb :: DevH db d3 :: R, ent, .inl ⟨rfl, rfl, rfl⟩⟩
  subst f1
  cases is3 with
  | false =>
    rw [if_pos (.inr (.inl rfl))] at hO
    subst hO
    refine go ?_
    exact ⟨rfl, [_, _], ⟨Res.tmp rfl, Res.tmp rfl, trivial⟩, LgP lb db g mb :: DevH db d3 :: R, ent, .inl ⟨rfl, rfl, rfl⟩⟩
  | true =>
    by_cases f3 : b3.length = 0
    rotate_left
    · rw [if_pos (.inr (.inr (.inl f3)))] at hO
      subst hO
      have hb3 := st2.2.2.2.2
      refine go ?_
      exact ⟨rfl, [_, _], ⟨Res.tmp rfl, Res.tmp rfl, trivial⟩, LgP lb db g mb :: DevH db d3 :: R, ent, .inl ⟨rfl, rfl, rfl⟩⟩
    refine go ?_
    rw [← hlm]
    refine WO.callE (vs := [.pointer (some ⟨lb, 0, none⟩), .slice a1 (xs.map (·.1)).length c1]) Tryz.func101 rfl rfl rfl rfl (TriE.ent (A := LgP lb db g mb :: DevH db d3 :: OC a1 c1 xs :: SL.conj (xs.map qO) :: R) ent (jr_right lb db mb g d3 a1 c1 (xs.map (·.1)) (qF xs) _ (by omega) hlog (by omega) hch)) ?_
    rintro v M ⟨rfl, rfl⟩
    rw [hlm]
    cases hcr : chsR (homeN d3 g) (xs.map (·.1)) with
    | false =>
      rw [if_pos (.inr (.inr (.inr hcr)))] at hO
      subst hO
      refine go ?_
      exact ⟨rfl, [_, _], ⟨Res.tmp rfl, Res.tmp rfl, trivial⟩, LgP lb db g mb :: DevH db d3 :: R, ent, .inl ⟨rfl, rfl, rfl⟩⟩
    | true =>
      rw [if_neg (by rw [hcr]; simp [f3])] at hO
      subst hO
      refine go ?_
      exact ⟨rfl, [_, _], ⟨Res.tmp rfl, Res.tmp rfl, trivial⟩, OC a1 c1 xs :: SL.conj (xs.map qO) :: LgP lb db g mb :: DevH db d3 :: R, ent, .inr ⟨a1, c1, xs, rfl, rfl, by omega, by omega, ha1, rfl, hq, rfl⟩⟩
end Go.SL

/- Layer 10 (journal): all transactions are read, walked. -/
namespace Go.SL
open Go.Proofs
set_option linter.unusedVariables false
set_option linter.unusedSimpArgs false
set_option linter.unusedSectionVars false
set_option maxRecDepth 10000
set_option maxHeartbeats 4000000
theorem qcat (ys xs : List QCh) (R : List HP) : Ent (SL.conj (xs.map qO) :: SL.conj (ys.map qO) :: R) (SL.conj ((ys ++ xs).map qO) :: R) := fun h y => by
  rw [List.map_append]
  refine has_conj.2 ?_
  have key : ∀ (l m : List HP) (R : List HP), Ent (l ++ (m ++ R)) ((m ++ l) ++ R) := by
    intro l
    induction l with
    | nil => intro m R; rw [List.append_nil]; exact Ent.refl _
    | cons b l ih =>
      intro m R h z
      have h1 : Has (b :: ((m ++ l) ++ R)) h := Has.cons_of (ih m R) z
      have key2 : ∀ (m : List HP) (R : List HP), Ent (b :: (m ++ R)) (m ++ b :: R) := by
        intro m
        induction m with
        | nil => intro R; exact Ent.refl _
        | cons d m ih2 => intro R; exact fun h z => Has.cons_of (ih2 R) z.swap
      rw [List.append_assoc] at h1 ⊢
      exact key2 m (l ++ R) h h1
  refine key _ _ _ _ ?_
  have y2 := has_conj.1 y
  have key3 : ∀ (l : List HP) {M N : List HP}, Ent M N → Ent (l ++ M) (l ++ N) := by
    intro l
    induction l with
    | nil => intro M N e; exact e
    | cons b l ih => intro M N e; exact fun h z => Has.cons_of (ih e) z
  exact key3 _ (fun _ z => has_conj.1 z) _ y2
/-- A device of which only was read. -/
def OnlyR (d e : Dv) : Prop := e.Ok ∧ e.kept = d.kept ∧ e.waits = d.waits ∧ e.now = d.now
theorem OnlyR.trans {a b c : Dv} (x : OnlyR a b) (y : OnlyR b c) : OnlyR a c := ⟨y.1, y.2.1.trans x.2.1, y.2.2.1.trans x.2.2.1, y.2.2.2.trans x.2.2.2⟩
theorem OnlyR.read (d : Dv) (ok : d.Ok) (n : Int) : OnlyR d (d.read n).1 := by
  unfold Dv.read
  exact ⟨Dv.call_ok ok _, by simp, by simp, by simp⟩
theorem OnlyR.opened (d : Dv) (ok : d.Ok) (g : Lg) (k : Nat) (kind : UInt8) : OnlyR d (openedP d g k kind).1 := by
  unfold openedP
  split <;> exact OnlyR.read d ok _
theorem OnlyR.bar (g : Lg) (b : Byt) : ∀ f d i acc, d.Ok → OnlyR d (barL g b d f i acc).1 := by
  intro f
  induction f with
  | zero => intro d i acc ok; exact ⟨ok, rfl, rfl, rfl⟩
  | succ f ih =>
    intro d i acc ok
    have r := OnlyR.read d ok (g.place (1 + i) : Nat)
    unfold barL
    split
    · exact r
    · split
      · exact r
      · exact r.trans (ih _ _ _ r.1)
theorem OnlyR.one (d : Dv) (ok : d.Ok) (g : Lg) (p : Nat) : OnlyR d (oneP d g p).1 := by
  have r := OnlyR.opened d ok g 0 1
  unfold oneP
  split
  · exact r
  · have r2 := OnlyR.bar g (openedP d g 0 1).2.1 ((openedP d g 0 1).2.1.length / 3) _ 0 [] r.1
    generalize barL g (openedP d g 0 1).2.1 (openedP d g 0 1).1 ((openedP d g 0 1).2.1.length / 3) 0 [] = q at *
    obtain ⟨d2, o, e⟩ := q
    cases o with
    | none => exact r.trans r2
    | some c =>
      have r3 := OnlyR.opened d2 r2.1 g (1 + c.length) 2
      dsimp only
      split <;> exact (r.trans r2).trans r3
attribute [local irreducible] W WO SV OW SW Tri Ent Tk Has Src SrcK DA DB RdS Own MapH WetH
theorem jr_read (lb db mb : Nat) (g0 : Lg) (d0 : Dv) (R : List HP) (w0 : LgW g0) (ok0 : d0.Ok) (hk0 : g0.log + 2 ≤ d0.kept.length) (hsq : g0.seq < 9223372036854775808) :
    TriE Tryz.prog 110 #[.pointer (some ⟨lb, 0, none⟩)] (fun v M =>
      ((readP (g0.log + 1) d0 g0 0 []).2.2.1 = none ∧ v = .tuple #[.slice none 0 0, .int .i64 (readP (g0.log + 1) d0 g0 0 []).2.2.2] ∧ M = LgP lb db (readP (g0.log + 1) d0 g0 0 []).2.1 mb :: DevH db (readP (g0.log + 1) d0 g0 0 []).1 :: R) ∨
      (∃ a c xs, (readP (g0.log + 1) d0 g0 0 []).2.2.1 = some (xs.map (·.1)) ∧ (readP (g0.log + 1) d0 g0 0 []).2.2.2 = 0 ∧ xs.length ≤ g0.log ∧ (xs.length ≠ 0 → ∃ b, a = some ⟨b, 0, none⟩) ∧ v = .tuple #[.slice a xs.length c, .int .i64 0] ∧ (∀ x ∈ xs, QOk x) ∧ M = OC a c xs :: SL.conj (xs.map qO) :: LgP lb db (readP (g0.log + 1) d0 g0 0 []).2.1 mb :: DevH db (readP (g0.log + 1) d0 g0 0 []).1 :: R)) (LgP lb db g0 mb :: DevH db d0 :: R) := by
  have hk := ok0.size
  have hl4 := w0.l4
  generalize hF : readP (g0.log + 1) d0 g0 0 [] = F
  refine Tri.of (N := 60) (args := [.pointer (some ⟨lb, 0, none⟩)]) Tryz.func110 rfl rfl rfl ?_
  refine go ?_
  refine W.scope ?_
  refine go ?_
  refine W.loopS 576460752303423484 rfl (fun q : Nat × Nat × Lg × Dv × List QCh × Option Addr × Nat => [(4, .slice q.2.2.2.2.2.1 q.2.2.2.2.1.length q.2.2.2.2.2.2), (5, .int .i64 (q.2.1 : Nat))]) (fun q => OC q.2.2.2.2.2.1 q.2.2.2.2.2.2 q.2.2.2.2.1 :: SL.conj (q.2.2.2.2.1.map qO) :: LgP lb db q.2.2.1 mb :: DevH db q.2.2.2.1 :: R)
    (fun q => q.2.1 ≤ g0.log ∧ g0.log + 1 ≤ q.1 + q.2.1 ∧ q.2.2.1.hd = g0.hd ∧ q.2.2.1.cur < g0.log ∧ q.2.2.1.seq ≤ g0.seq + q.2.1 ∧ q.2.2.2.1.Ok ∧ q.2.2.2.1.kept.length = d0.kept.length ∧ q.2.2.2.2.1.length ≤ q.2.1 ∧ (∀ x ∈ q.2.2.2.2.1, QOk x) ∧ (q.2.2.2.2.1.length ≠ 0 → ∃ b, q.2.2.2.2.2.1 = some ⟨b, 0, none⟩) ∧ readP q.1 q.2.2.2.1 q.2.2.1 q.2.1 (q.2.2.2.2.1.map (·.1)) = F) (fun q => g0.log - q.2.1) (g0.log + 1, 0, g0, d0, [], none, 0) ⟨rfl, rfl, trivial⟩ ⟨Nat.zero_le _, Nat.le_refl _, rfl, w0.cur, Nat.le_refl _, ok0, rfl, Nat.le_refl _, fun x hx => (List.not_mem_nil hx).elim, fun z => absurd rfl z, hF⟩ (Ent.app (Ent.ownNil (Ent.conj ent))) ?_
  clear hF
  rintro ⟨fu, p, g, d, ys, a, c⟩ bg ⟨hpl, hfu, hhd, hcur, hsq2, ok, hkl, hyl, hq, ha, he⟩
  dsimp only at hpl hfu hhd hcur hsq2 ok hkl hyl hq ha he ⊢
  have hgl : g.log = g0.log := by unfold Lg.log; rw [hhd]
  have w : LgW g := ⟨by rw [hgl]; exact w0.l3, by rw [hgl]; exact w0.l4, by rw [hgl, hhd]; exact w0.eq, by rw [hgl]; exact hcur, by rw [hhd]; exact w0.ep, by omega⟩
  obtain ⟨f, rfl⟩ : ∃ f, fu = f + 1 := ⟨fu - 1, by omega⟩
  have hst : readP (f + 1) d g p (ys.map (·.1)) = match oneP d g (g.log - p) with
    | (d, none, e) => if e ≠ 0 then (d, g, none, e) else (d, g, some (ys.map (·.1)), 0)
    | (d, some c, _) => readP f d { g with cur := (g.cur + c.length + 2) % g.log, seq := g.seq + 1 } (p + c.length + 2) (ys.map (·.1) ++ c) := rfl
  rw [hst] at he
  clear hst
  have hpk : ∀ k, g.place k < d.kept.length := fun k => by
    have := Nat.mod_lt (g.cur + k) (show 0 < g.log by have := w.l3; omega)
    unfold Lg.place; omega
  have hlq := w.eq
  have hw3 := w.l3
  refine go ?_
  rw [show g.hd.log - (p : Int) = ((g.log - p : Nat) : Int) by omega]
  refine WO.callE (vs := [.pointer (some ⟨lb, 0, none⟩), .int .i64 (g.log - p : Nat)]) Tryz.func157 rfl rfl rfl rfl (TriE.ent (A := LgP lb db g mb :: DevH db d :: OC a c ys :: SL.conj (ys.map qO) :: R) ent (jr_one lb db mb (g.log - p) g d _ w ok hpk (by omega) (by omega))) ?_
  rintro v M (⟨e1, rfl, rfl⟩ | ⟨a2, c2, xs, e1, e2, hx0, hx2, ha2, rfl, hqx, rfl⟩)
  · generalize oneP d g (g.log - p) = q at *
    obtain ⟨d2, o, e⟩ := q
    dsimp only at e1 he ⊢
    subst e1
    dsimp only at he
    by_cases hz : e = 0
    · subst hz
      rw [if_neg (by simp)] at he
      subst he
      refine go ?_
      exact ⟨rfl, [_, _], ⟨Res.tmp rfl, Res.tmp rfl, trivial⟩, OC a c ys :: SL.conj (ys.map qO) :: LgP lb db g mb :: DevH db d2 :: R, ent, .inr ⟨a, c, ys, rfl, rfl, by omega, ha, rfl, hq, rfl⟩⟩
    · rw [if_pos hz] at he
      subst he
      refine go ?_
      exact ⟨rfl, [_, _], ⟨Res.tmp rfl, Res.tmp rfl, trivial⟩, LgP lb db g mb :: DevH db d2 :: R, ent, .inl ⟨rfl, rfl, rfl⟩⟩
  have hor := OnlyR.one d ok g (g.log - p)
  generalize oneP d g (g.log - p) = q at *
  obtain ⟨d2, o, e⟩ := q
  dsimp only at e1 e2 he hor ⊢
  subst e1
  subst e2
  dsimp only at he
  rw [List.length_map, ← List.map_append] at he
  obtain ⟨b2, rfl⟩ := ha2 hx0
  have hcat := qcat ys xs
  have hqf : (ys ++ xs).flatMap qV = ys.flatMap qV ++ xs.flatMap qV := List.flatMap_append
  have hql : (ys ++ xs).length = ys.length + xs.length := List.length_append
  have hq2 : ∀ x ∈ ys ++ xs, QOk x := fun x hx => (List.mem_append.1 hx).elim (hq x) (hqx x)
  have hxl := qRow_len xs
  refine go ?_
  refine WO.sv rfl ?_
  refine SV.append rfl rfl rfl tk (RdS.src (RdS.own (sz := 2) tk ha2 hxl)) hxl (by simp [List.all_eq_true, qV, isCell]) (by omega) rfl ?_
  intro a3 c3 ha3
  rw [← hqf, ← hql]
  generalize hzs : ys ++ xs = zs at *
  refine go ?_
  refine W.drawC 17 #[0, 0, 2, 6, 14, 0, 32, 126, 254, 0, 512, 1536, 3584, 7680, 16382, 32767, 65535, 131071] [LgP lb db g mb] (OC a3 c3 zs :: SL.conj (xs.map qO) :: SL.conj (ys.map qO) :: DevH db d2 :: R) rfl (by kernel_rfl) (by kernel_rfl) (by kernel_rfl) (by kernel_rfl) rfl rfl rfl ent ?_
  refine go ?_
  have hmd := Nat.mod_lt (g.cur + xs.length + 2) (show 0 < g.log by omega)
  have hme : (((g.cur : Int) + (xs.length : Int)) + 2) % g.hd.log = (((g.cur + xs.length + 2) % g.log : Nat) : Int) := by rw [← hlq]; exact_mod_cast rfl
  rw [hme]
  refine ⟨_, ent, ?_⟩
  refine OW.sv ?_
  refine SV.store rfl rfl cel rfl rfl rfl frz le0 nl ?_
  refine ⟨_, Ent.refl _, ?_⟩
  refine go ?_
  generalize (g.cur + xs.length + 2) % g.log = m at *
  have hfn : Ent (SL.conj (xs.map qO) :: SL.conj (ys.map qO) :: OC a3 c3 zs :: LgP lb db { g with cur := m, seq := g.seq + 1 } mb :: DevH db d2 :: R) (OC a3 c3 zs :: SL.conj (zs.map qO) :: LgP lb db { g with cur := m, seq := g.seq + 1 } mb :: DevH db d2 :: R) := by
    exact (hcat _).trans ent
  refine ⟨(f, p + xs.length + 2, { g with cur := m, seq := g.seq + 1 }, d2, zs, a3, c3), ⟨rfl, ?_, trivial⟩, rfl, ⟨?_, ?_, hhd, ?_, ?_, hor.1, ?_, ?_, hq2, ?_, he⟩, ?_, Ent.app ?_⟩
  · show Value.int _ _ = Value.int _ _
    congr 1
  · dsimp only; omega
  · dsimp only; omega
  · dsimp only; omega
  · dsimp only; omega
  · dsimp only; rw [hor.2.1, hkl]
  · dsimp only; omega
  · intro z; exact ha3 (by dsimp only at z; omega)
  · dsimp only; omega
  · exact Ent.trans ent hfn
end Go.SL

/- Layer 10 (journal): what was read is laid at its place, walked. -/
namespace Go.SL
open Go.Proofs
set_option linter.unusedVariables false
set_option linter.unusedSimpArgs false
set_option linter.unusedSectionVars false
set_option maxRecDepth 10000
set_option maxHeartbeats 4000000
attribute [local irreducible] W WO SV OW SW Tri Ent Tk Has Src SrcK DA DB RdS Own MapH WetH
theorem jr_redo (lb db mb : Nat) (g : Lg) (d0 : Dv) (a : Option Addr) (c : Nat) (cs : Chs) (f : Nat → Option Addr × Nat) (R : List HP) (w : LgW g) (ok0 : d0.Ok) (hwt : d0.waits.length ≤ 1000) (hcl : cs.length ≤ 4096) (hns : ∀ i, i < cs.length → 0 ≤ (cs.getD i (0, [])).1 ∧ (cs.getD i (0, [])).1 < 65536) (r0 : ChR a cs f R) :
    TriE Tryz.prog 111 #[.pointer (some ⟨lb, 0, none⟩), .slice a cs.length c] (fun v M => v = .int .i64 (redoP d0 g cs).2 ∧ M = LgP lb db g mb :: DevH db (redoP d0 g cs).1 :: R) (LgP lb db g mb :: DevH db d0 :: R) := by
  have r : ChR a cs f [SL.conj R] := r0.ent ofCj
  have hrl := chRow_len cs f
  have hlq := w.eq
  have hl4 := w.l4
  have hL : redoP d0 g cs = andD (redoC g d0 cs) fun d => if cs.length = 0 then (d, 0) else d.flush := rfl
  rw [hL]
  clear hL
  generalize hK : (fun d : Dv => if cs.length = 0 then (d, (0 : Int)) else d.flush) = K
  generalize hF : redoC g d0 cs = F
  refine Tri.of (N := 37) (args := [.pointer (some ⟨lb, 0, none⟩), .slice a cs.length c]) Tryz.func111 rfl rfl rfl ?_
  refine W.ent toCj2 ?_
  have hfin : ∀ (d : Dv), Ent [LgP lb db g mb, DevH db d, SL.conj R] (LgP lb db g mb :: DevH db d :: R) := fun d => ofCj2
  clear r0
  generalize hC : SL.conj R = C at *
  refine go ?_
  refine W.loopS 536870096 rfl (fun q : Nat × Dv => [(10, .int .i64 (q.1 : Int))]) (fun q => [LgP lb db g mb, DevH db q.2, C])
    (fun q => q.1 ≤ cs.length ∧ q.2.Ok ∧ q.2.kept.length = d0.kept.length ∧ q.2.waits.length ≤ 1001 + q.1 ∧ redoC g q.2 (cs.drop q.1) = F) (fun q => cs.length - q.1) (0, d0) ⟨rfl, trivial⟩ ⟨Nat.zero_le _, ok0, rfl, by dsimp only; omega, hF⟩ (Ent.app ent) ?_
  clear hF
  rintro ⟨i, d⟩ bg2 ⟨hi, ok, hkd, hwd, he⟩
  dsimp only at hi ok hkd hwd he ⊢
  by_cases h9 : i < cs.length
  · have hrow := chRow_at cs f h9
    have hbs := r.bs i h9
    have hln := r.lens i h9
    have hn := hns i h9
    have hdc := drop_cons h9
    rw [hdc] at he
    have hst : redoC g d (cs.getD i (0, []) :: cs.drop (i + 1)) = andD (d.put (g.home (cs.getD i (0, [])).1.toNat : Nat) (cs.getD i (0, [])).2) fun d => redoC g d (cs.drop (i + 1)) := rfl
    rw [hst] at he
    clear hst hdc
    unfold chV at hrow
    generalize (cs.getD i (0, [])).1 = N0 at *
    generalize (cs.getD i (0, [])).2 = s at *
    obtain ⟨N, rfl⟩ : ∃ N : Nat, N0 = N := ⟨_, (Int.toNat_of_nonneg hn.1).symm⟩
    rw [Int.toNat_natCast] at he
    have st := put_step d ok (g.home N : Nat) s
    have hhm : g.home N = 2 + g.log + N := rfl
    obtain ⟨b9, o9, rfl⟩ := r.row.at (by omega)
    refine go ?_
    refine WO.sv rfl ?_
    refine SV.loadRN (k := 2) (vs := [.int .i64 N, .slice (f i).1 s.length (f i).2]) (i * 2) rfl r.row.cons.cons (by omega) (by decide) (by rw [hrl]; omega) hrow ?_
    refine go ?_
    intro b10
    refine go ?_
    refine W.drawB #[0, 1, 3, 7, 0, 0, 32, 112, 0, 256, 1023, 2047] [LgP lb db g mb, pts b10 (.cells [.int .i64 N, .slice (f i).1 s.length (f i).2].toArray 125)] [C, DevH db d] rfl (by kernel_rfl) (by kernel_rfl) (by kernel_rfl) ent ?_
    refine go ?_
    refine DB.callE (vs := [.pointer (some ⟨lb, 0, none⟩), .int .i64 N]) Tryz.func82 rfl rfl rfl rfl hl hl (jr_home lb db mb N g _ (by omega) hlq (by omega)) ?_
    rintro v M ⟨rfl, rfl⟩
    refine ⟨[], [C, DevH db d], ent, ?_⟩
    refine go ?_
    refine DB.callE (vs := [.pointer (some ⟨db, 0, none⟩), .int .i64 (g.home N : Nat), .slice (f i).1 s.length (f i).2]) Tryz.func103 rfl rfl rfl rfl hl hl (TriE.ent (A := DevH db d :: [C, LgP lb db g mb, pts b10 (.cells [.int .i64 N, .slice (f i).1 s.length (f i).2].toArray 125)]) ent (dv_Write db d (g.home N : Nat) (f i).1 (f i).2 s _ ok hln (by omega) (hbs.ent ent))) ?_
    rintro v M ⟨rfl, rfl⟩
    generalize d.put (g.home N : Nat) s = q at *
    obtain ⟨d2, z⟩ := q
    dsimp only at he st ⊢
    refine ⟨[], [DevH db d2, C], ent, ?_⟩
    refine go ?_
    refine ⟨[LgP lb db g mb, DevH db d2, C], ent, ?_⟩
    by_cases hz : z = 0
    · subst hz
      rw [show ∀ k, andD (d2, 0) k = k d2 from fun k => rfl] at he
      refine go ?_
      exact ⟨(i + 1, d2), ⟨rfl, trivial⟩, rfl, ⟨h9, st.1, by dsimp only; rw [st.2.1, hkd], by dsimp only; omega, he⟩, by dsimp only; omega, Ent.app ent⟩
    · rw [show ∀ k, andD (d2, z) k = (d2, z) from fun k => if_pos hz] at he
      subst he
      rw [show andD (d2, z) K = (d2, z) from if_pos hz]
      refine go ?_
      exact ⟨rfl, [_], ⟨Res.tmp rfl, trivial⟩, LgP lb db g mb :: DevH db d2 :: R, Ent.trans ent (hfin d2), rfl, rfl⟩
  have hii : i = cs.length := by omega
  subst hii
  rw [List.drop_length] at he
  have he' : F = (d, 0) := he.symm
  subst he'
  rw [show andD (d, 0) K = K d from rfl, ← hK]
  dsimp only
  clear hK K
  by_cases hc0 : cs.length = 0
  · rw [if_pos hc0]
    refine go ?_
    exact ⟨rfl, [_], ⟨Res.tmp rfl, trivial⟩, LgP lb db g mb :: DevH db d :: R, Ent.trans ent (hfin d), rfl, rfl⟩
  rw [if_neg hc0]
  refine go ?_
  refine WO.callE (vs := [.pointer (some ⟨db, 0, none⟩)]) Tryz.func104 rfl rfl rfl rfl (TriE.ent (A := DevH db d :: [LgP lb db g mb, C]) ent (dv_Flush db d _ ok (by omega))) ?_
  rintro v M ⟨rfl, rfl⟩
  generalize d.flush = q at *
  obtain ⟨d2, z2⟩ := q
  refine go ?_
  exact ⟨rfl, [_], ⟨Res.tmp rfl, trivial⟩, LgP lb db g mb :: DevH db d2 :: R, Ent.trans ent (hfin d2), rfl, rfl⟩
end Go.SL

/- Layer 10 (journal): a log is opened, walked. -/
namespace Go.SL
open Go.Proofs
set_option linter.unusedVariables false
set_option linter.unusedSimpArgs false
set_option linter.unusedSectionVars false
set_option maxRecDepth 10000
set_option maxHeartbeats 4000000
theorem OnlyR.refl {d : Dv} (ok : d.Ok) : OnlyR d d := ⟨ok, rfl, rfl, rfl⟩
theorem readP_step : ∀ (f : Nat) (d : Dv) (g : Lg) (p : Nat) (all : Chs), d.Ok → 0 < g.log → g.cur < g.log →
    OnlyR d (readP f d g p all).1 ∧ (readP f d g p all).2.1.hd = g.hd ∧ (readP f d g p all).2.1.cur < g.log ∧ (readP f d g p all).2.1.seq ≤ g.seq + f ∧ g.seq ≤ (readP f d g p all).2.1.seq ∧ (readP f d g p all).2.1.used = g.used ∧ (readP f d g p all).2.1.wet = g.wet ∧ (readP f d g p all).2.1.down = g.down := by
  intro f
  induction f with
  | zero => intro d g p all ok _ hc; exact ⟨OnlyR.refl ok, rfl, hc, Nat.le_refl _, Nat.le_refl _, rfl, rfl, rfl⟩
  | succ f ih =>
    intro d g p all ok hl hc
    have ho := OnlyR.one d ok g (g.log - p)
    unfold readP
    generalize oneP d g (g.log - p) = q at *
    obtain ⟨d2, o, e⟩ := q
    cases o with
    | none =>
      dsimp only
      split
      · exact ⟨ho, rfl, hc, by dsimp only; omega, Nat.le_refl _, rfl, rfl, rfl⟩
      · exact ⟨ho, rfl, hc, by dsimp only; omega, Nat.le_refl _, rfl, rfl, rfl⟩
    | some c =>
      dsimp only at ho ⊢
      obtain ⟨h1, h2, h3, h4, h5, h6, h7, h8⟩ := ih d2 { g with cur := (g.cur + c.length + 2) % g.log, seq := g.seq + 1 } (p + c.length + 2) (all ++ c) ho.1 hl (Nat.mod_lt _ hl)
      refine ⟨ho.trans h1, h2, h3, ?_, ?_, h6, h7, h8⟩
      · dsimp only at h4; omega
      · dsimp only at h5; omega
theorem readP_none : ∀ (f : Nat) (d : Dv) (g : Lg) (p : Nat) (all : Chs), (readP f d g p all).2.2.1 = none → (readP f d g p all).2.2.2 ≠ 0 := by
  intro f
  induction f with
  | zero => intro d g p all h; cases h
  | succ f ih =>
    intro d g p all h
    unfold readP at h ⊢
    generalize oneP d g (g.log - p) = q at *
    obtain ⟨d2, o, e⟩ := q
    cases o with
    | none =>
      dsimp only at h ⊢
      split at h
      · rename_i hz; rw [if_pos hz]; exact hz
      · cases h
    | some c => exact ih _ _ _ _ h
theorem redoC_step (g : Lg) : ∀ (cs : Chs) (d : Dv), d.Ok → (redoC g d cs).1.Ok ∧ (redoC g d cs).1.kept.length = d.kept.length ∧ (redoC g d cs).1.waits.length ≤ d.waits.length + cs.length := by
  intro cs
  induction cs with
  | nil => intro d ok; exact ⟨ok, rfl, Nat.le_refl _⟩
  | cons x l ih =>
    intro d ok
    have st := put_step d ok (g.home x.1.toNat : Nat) x.2
    unfold redoC andD
    split
    · exact ⟨st.1, st.2.1, by simp only [List.length_cons]; omega⟩
    · obtain ⟨a, b, c⟩ := ih _ st.1
      exact ⟨a, by rw [b, st.2.1], by simp only [List.length_cons]; omega⟩
theorem redoP_step (g : Lg) (cs : Chs) (d : Dv) (ok : d.Ok) : (redoP d g cs).1.Ok ∧ (redoP d g cs).1.kept.length = d.kept.length ∧ (redoP d g cs).1.waits.length ≤ d.waits.length + cs.length := by
  have st := redoC_step g cs d ok
  unfold redoP andD
  split
  · exact st
  · dsimp only
    split
    · exact st
    · have f := flush_step _ st.1
      exact ⟨f.1, by rw [f.2.1, st.2.1], by omega⟩
theorem loadN_right (d : Dv) (ok : d.Ok) : ∀ n, (loadN d n).2.1 = Hd.zero ∨ HdR (loadN d n).2.1 d.kept.length
  | 0 => .inl rfl
  | n + 1 => by
    have ih := loadN_right d ok n
    unfold loadN
    split
    · exact ih
    · split
      · exact .inl rfl
      · dsimp only
        unfold pickH
        split
        · rename_i h
          right
          have h1 := h.1
          unfold hdOf
          rw [h1]
          show HdR (hdRead _).1 _
          have hs := ok.size
          unfold hdOk at h1
          rw [Bool.and_eq_true, decide_eq_true_eq] at h1
          have := h1.2
          rw [show min (d.kept.length : Int) 4096 = d.kept.length by omega] at this
          exact this
        · exact ih
theorem loadS_right (d : Dv) (ok : d.Ok) (h : (loadS d).2.2 = 0) : OnlyR d (loadS d).1 ∧ HdR (loadS d).2.1 d.kept.length := by
  obtain ⟨k1, k2, k3, k4, _⟩ := loadN_ok d ok (min 2 d.kept.length)
  have hr := loadN_right d ok (min 2 d.kept.length)
  unfold loadS at h ⊢
  split at h
  · exact absurd h (by simp)
  · rename_i h0
    rw [if_neg h0]
    split at h
    · rename_i h1; exact absurd h h1
    · rename_i h1
      rw [if_neg h1]
      split at h
      · exact absurd h (by simp)
      · rename_i h2
        rw [if_neg h2]
        refine ⟨⟨k1, k2, k4, k3⟩, hr.resolve_left fun z => h2 (by rw [z]; rfl)⟩
attribute [local irreducible] W WO SV OW SW Tri Ent Tk Has Src SrcK DA DB RdS Own MapH WetH
theorem h9_LoadN (R : List HP) :
    TriE Tryz.prog 74 #[.pointer none] (fun v M => v = .tuple #[.agg Hd.zero.L.toArray, .int .i64 1] ∧ M = R) R := by
  refine Tri.of (N := 58) (args := [.pointer none]) Tryz.func74 rfl rfl rfl ?_
  refine go ?_
  intro b2
  refine go ?_
  refine WO.callE (vs := [.pointer none]) Tryz.func72 rfl rfl rfl rfl (dv_Len0 _) ?_
  rintro v M ⟨rfl, rfl⟩
  refine go ?_
  exact ⟨rfl, [_, _], ⟨Res.cell rfl le0 nl, Res.tmp rfl, trivial⟩, R, ent, rfl, rfl⟩
theorem jr_OpenN (R : List HP) :
    TriE Tryz.prog 60 #[.pointer none] (fun v M => v = .tuple #[.pointer none, .int .i64 1] ∧ M = R) R := by
  refine Tri.of (N := 50) (args := [.pointer none]) Tryz.func60 rfl rfl rfl ?_
  refine go ?_
  refine WO.callE (vs := [.pointer none]) Tryz.func74 rfl rfl rfl rfl (h9_LoadN _) ?_
  rintro v M ⟨rfl, rfl⟩
  refine go ?_
  intro b4
  refine go ?_
  exact ⟨rfl, [_, _], ⟨Res.tmp rfl, Res.tmp rfl, trivial⟩, _, ent, rfl, rfl⟩
theorem jr_Open (db : Nat) (d : Dv) (R : List HP) (ok : d.Ok) (hwt : d.waits.length ≤ 1000) :
    TriE Tryz.prog 60 #[.pointer (some ⟨db, 0, none⟩)] (fun v M =>
      ((openP d).2.1 = none ∧ (openP d).2.2 ≠ 0 ∧ v = .tuple #[.pointer none, .int .i64 (openP d).2.2] ∧ M = DevH db (openP d).1 :: R) ∨
      (∃ g lb mb, (openP d).2.1 = some g ∧ (openP d).2.2 = 0 ∧ v = .tuple #[.pointer (some ⟨lb, 0, none⟩), .int .i64 0] ∧ M = LgP lb db g mb :: WetH mb g.wet :: DevH db (openP d).1 :: R)) (DevH db d :: R) := by
  have hO : openP d = if (loadS d).2.2 ≠ 0 then ((loadS d).1, none, (loadS d).2.2)
    else match readP ((loadS d).2.1.log.toNat + 1) (loadS d).1 (openLg (loadS d).2.1) 0 [] with
    | (d, g, none, e) => (d, none, e)
    | (d, g, some all, _) => if (redoP d g all).2 ≠ 0 then ((redoP d g all).1, none, (redoP d g all).2)
      else if (saveP (redoP d g all).1 g (g.hd.epoch + 1)).2.2 ≠ 0 then ((saveP (redoP d g all).1 g (g.hd.epoch + 1)).1, none, (saveP (redoP d g all).1 g (g.hd.epoch + 1)).2.2)
      else ((saveP (redoP d g all).1 g (g.hd.epoch + 1)).1, some (saveP (redoP d g all).1 g (g.hd.epoch + 1)).2.1, 0) := rfl
  have hlr := loadS_right d ok
  have hsz := ok.size
  generalize openP d = F at *
  refine Tri.of (N := 50) (args := [.pointer (some ⟨db, 0, none⟩)]) Tryz.func60 rfl rfl rfl ?_
  refine go ?_
  refine WO.callE (vs := [.pointer (some ⟨db, 0, none⟩)]) Tryz.func74 rfl rfl rfl rfl (h9_Load db d _ ok) ?_
  rintro v M ⟨rfl, rfl⟩
  generalize loadS d = q at *
  obtain ⟨d1, ⟨hg, he, hp, hq, hll⟩, e⟩ := q
  dsimp only at hlr hO ⊢
  refine go ?_
  intro b4
  by_cases hz : e = 0
  rotate_left
  · rw [if_pos hz] at hO
    subst hO
    refine go ?_
    exact ⟨rfl, [_, _], ⟨Res.tmp rfl, Res.tmp rfl, trivial⟩, DevH db d1 :: R, ent, .inl ⟨rfl, hz, rfl, rfl⟩⟩
  subst hz
  rw [if_neg (by simp)] at hO
  obtain ⟨hor, hrt⟩ := hlr rfl
  have hrt0 := hrt
  unfold HdR at hrt0
  dsimp only at hrt0
  obtain ⟨lg, rfl⟩ : ∃ n : Nat, hll = n := ⟨hll.toNat, by omega⟩
  obtain ⟨ps, rfl⟩ : ∃ n : Nat, hp = n := ⟨hp.toNat, by omega⟩
  refine go ?_
  refine WO.sv rfl ?_
  refine SV.mkMap (enc := (Value.int .i64 : Int → Value)) ?_
  intro mb
  refine go ?_
  intro lb
  have e1 : Ent (LgP lb db (openLg ⟨hg, he, ps, hq, lg⟩) mb :: MapH mb (Value.int .i64) ([] : List (Int × Value)) :: pts b4 (.cells (Hd.mk hg he ps hq lg).L.toArray 137) :: DevH db d1 :: R) (LgP lb db (openLg ⟨hg, he, ps, hq, lg⟩) mb :: DevH db d1 :: WetH mb [] :: pts b4 (.cells (Hd.mk hg he ps hq lg).L.toArray 137) :: R) := Ent.trans (Ent.under WetH.nil) ent
  refine WO.ent e1 ?_
  clear e1
  have hgL : (openLg ⟨hg, he, ps, hq, lg⟩).log = lg := rfl
  have hgH : (openLg ⟨hg, he, ps, hq, lg⟩).hd = ⟨hg, he, ps, hq, lg⟩ := rfl
  have hgC : (openLg ⟨hg, he, ps, hq, lg⟩).cur = ps := rfl
  have hgS : (openLg ⟨hg, he, ps, hq, lg⟩).seq = hq := rfl
  have hgW : (openLg ⟨hg, he, ps, hq, lg⟩).wet = [] := rfl
  have hO2 : F = match readP ((openLg ⟨hg, he, ps, hq, lg⟩).log + 1) d1 (openLg ⟨hg, he, ps, hq, lg⟩) 0 [] with
    | (d, g, none, e) => (d, none, e)
    | (d, g, some all, _) => if (redoP d g all).2 ≠ 0 then ((redoP d g all).1, none, (redoP d g all).2)
      else if (saveP (redoP d g all).1 g (g.hd.epoch + 1)).2.2 ≠ 0 then ((saveP (redoP d g all).1 g (g.hd.epoch + 1)).1, none, (saveP (redoP d g all).1 g (g.hd.epoch + 1)).2.2)
      else ((saveP (redoP d g all).1 g (g.hd.epoch + 1)).1, some (saveP (redoP d g all).1 g (g.hd.epoch + 1)).2.1, 0) := hO
  clear hO
  have w0 : LgW (openLg ⟨hg, he, ps, hq, lg⟩) := ⟨by omega, by omega, by rw [hgL, hgH], by omega, by rw [hgH]; dsimp only; omega, by omega⟩
  generalize openLg ⟨hg, he, ps, hq, lg⟩ = g0 at *
  have ok1 := hor.1
  have hk1 : d1.kept.length = d.kept.length := by rw [hor.2.1]
  have hw1 : d1.waits.length = d.waits.length := by rw [hor.2.2.1]
  have hrs := readP_step (g0.log + 1) d1 g0 0 [] ok1 (by omega) (by omega)
  have hnn := readP_none (g0.log + 1) d1 g0 0 []
  refine go ?_
  refine WO.callE (vs := [.pointer (some ⟨lb, 0, none⟩)]) Tryz.func110 rfl rfl rfl rfl (jr_read lb db mb g0 d1 _ w0 ok1 (by omega) (by omega)) ?_
  rintro v M (⟨e1, rfl, rfl⟩ | ⟨a2, c2, xs, e1, e2, hxl, ha2, rfl, hqx, rfl⟩)
  · generalize readP (g0.log + 1) d1 g0 0 [] = q at *
    obtain ⟨d2, g, o, e⟩ := q
    dsimp only at e1 hO2 ⊢
    subst e1
    dsimp only at hO2
    subst hO2
    have hne : e ≠ 0 := hnn rfl
    refine go ?_
    exact ⟨rfl, [_, _], ⟨Res.tmp rfl, Res.tmp rfl, trivial⟩, DevH db d2 :: R, ent, .inl ⟨rfl, hne, rfl, rfl⟩⟩
  generalize readP (g0.log + 1) d1 g0 0 [] = q at *
  obtain ⟨d2, g, o, e⟩ := q
  dsimp only at e1 e2 hO2 hrs ⊢
  subst e1
  subst e2
  dsimp only at hO2
  obtain ⟨hr2, hhd, hcur, hsq, hsq0, hus, hwe, hdn⟩ := hrs
  have hgl : g.log = g0.log := by unfold Lg.log; rw [hhd]
  have w : LgW g := ⟨by rw [hgl]; exact w0.l3, by rw [hgl]; exact w0.l4, by rw [hgl, hhd]; exact w0.eq, by rw [hgl]; exact hcur, by rw [hhd]; exact w0.ep, by omega⟩
  have ok2 := hr2.1
  have hk2 : d2.kept.length = d.kept.length := by rw [hr2.2.1, hk1]
  have hw2 : d2.waits.length = d.waits.length := by rw [hr2.2.2.1, hw1]
  have hch : ChR a2 (xs.map (·.1)) (qF xs) (OC a2 c2 xs :: SL.conj (xs.map qO) :: WetH mb [] :: pts b4 (.cells (Hd.mk hg he ps hq lg).L.toArray 137) :: R) := qR a2 c2 xs hqx ha2 (by omega)
  have hlm : (xs.map (·.1)).length = xs.length := by simp
  have hns : ∀ i, i < (xs.map (·.1)).length → 0 ≤ ((xs.map (·.1)).getD i (0, [])).1 ∧ ((xs.map (·.1)).getD i (0, [])).1 < 65536 := fun i hi => by
    rw [hlm] at hi
    have := (hqx xs[i] (List.getElem_mem hi)).n
    simpa [hi] using this
  have hrd := redoP_step g (xs.map (·.1)) d2 ok2
  rw [hlm] at hrd
  refine go ?_
  rw [← hlm]
  refine WO.callE (vs := [.pointer (some ⟨lb, 0, none⟩), .slice a2 (xs.map (·.1)).length c2]) Tryz.func111 rfl rfl rfl rfl (TriE.ent (A := LgP lb db g mb :: DevH db d2 :: OC a2 c2 xs :: SL.conj (xs.map qO) :: WetH mb [] :: pts b4 (.cells (Hd.mk hg he ps hq lg).L.toArray 137) :: R) ent (jr_redo lb db mb g d2 a2 c2 (xs.map (·.1)) (qF xs) _ w ok2 (by omega) (by omega) hns hch)) ?_
  rintro v M ⟨rfl, rfl⟩
  generalize redoP d2 g (xs.map (·.1)) = q at *
  obtain ⟨d3, e3⟩ := q
  dsimp only at hrd hO2 ⊢
  by_cases hz3 : e3 = 0
  rotate_left
  · rw [if_pos hz3] at hO2
    subst hO2
    refine go ?_
    exact ⟨rfl, [_, _], ⟨Res.tmp rfl, Res.tmp rfl, trivial⟩, DevH db d3 :: R, ent, .inl ⟨rfl, hz3, rfl, rfl⟩⟩
  subst hz3
  rw [if_neg (by simp)] at hO2
  have hge : g.hd.epoch = he := by rw [hhd, hgH]
  rw [hge] at hO2
  have hgg : g.hd.gen = hg := by rw [hhd, hgH]
  refine go ?_
  have hwr : IntKind.wrap .u64 ((he : Int) + 1) = ((he + 1 : Nat) : Int) := by
    rw [show (he : Int) + 1 = ((he + 1 : Nat) : Int) by omega]
    have : he + 1 < 18446744073709551616 := by omega
    generalize he + 1 = m at *
    exact wI
  rw [hwr]
  refine WO.callE (vs := [.pointer (some ⟨lb, 0, none⟩), .int .u64 (he + 1 : Nat)]) Tryz.func105 rfl rfl rfl rfl (jr_save lb db mb (he + 1) g d3 _ w (by omega) (by omega) hrd.1 (by omega)) ?_
  rintro v M ⟨rfl, rfl⟩
  have hsw : (saveP d3 g (he + 1)).2.1.wet = g.wet := by unfold saveP; split <;> rfl
  generalize saveP d3 g (he + 1) = q at *
  obtain ⟨d4, g4, e4⟩ := q
  dsimp only at hO2 hsw ⊢
  by_cases hz4 : e4 = 0
  rotate_left
  · rw [if_pos hz4] at hO2
    subst hO2
    refine go ?_
    exact ⟨rfl, [_, _], ⟨Res.tmp rfl, Res.tmp rfl, trivial⟩, DevH db d4 :: R, ent, .inl ⟨rfl, hz4, rfl, rfl⟩⟩
  subst hz4
  rw [if_neg (by simp)] at hO2
  subst hO2
  have hwn : g4.wet = [] := by rw [hsw, hwe, hgW]
  refine go ?_
  exact ⟨rfl, [_, _], ⟨Res.tmp rfl, Res.tmp rfl, trivial⟩, LgP lb db g4 mb :: WetH mb [] :: DevH db d4 :: R, ent, .inr ⟨g4, lb, mb, rfl, rfl, rfl, by rw [hwn]⟩⟩
end Go.SL

/- Layer 10 (journal): a device with an empty log. -/
namespace Go.SL
open Go.Proofs
set_option linter.unusedVariables false
set_option linter.unusedSimpArgs false
set_option linter.unusedSectionVars false
set_option maxRecDepth 10000
set_option maxHeartbeats 4000000
theorem saveS_step (d : Dv) (ok : d.Ok) (h : Hd) : (saveS d h).1.Ok ∧ (saveS d h).1.kept.length = d.kept.length ∧ (saveS d h).1.waits.length ≤ d.waits.length + 1 := by
  have st := put_step d ok ((h.gen % 2 : Nat) : Int) h.put
  unfold saveS
  split
  · exact ⟨ok, rfl, by simp⟩
  · split
    · split
      · have f := flush_step _ st.1
        exact ⟨f.1, by rw [f.2.1, st.2.1], by omega⟩
      · exact st
    · exact ⟨ok, rfl, by simp⟩
theorem fmtW_step : ∀ (f : Nat) (d : Dv) (n : Nat), d.Ok → (fmtW f d n).1.Ok ∧ (fmtW f d n).1.kept.length = d.kept.length ∧ (fmtW f d n).1.waits.length ≤ d.waits.length + f := by
  intro f
  induction f with
  | zero => intro d n ok; exact ⟨ok, rfl, Nat.le_refl _⟩
  | succ f ih =>
    intro d n ok
    have st := put_step d ok (n : Nat) zero256
    unfold fmtW
    split
    · exact ⟨st.1, st.2.1, by omega⟩
    · obtain ⟨a, b, c⟩ := ih _ (n + 1) st.1
      exact ⟨a, by rw [b, st.2.1], by omega⟩
theorem fmtS_step (d : Dv) (ok : d.Ok) (n : Int) : (fmtS d n).1.Ok ∧ (fmtS d n).1.kept.length = d.kept.length ∧ (fmtS d n).1.waits.length ≤ d.waits.length + d.kept.length + 1 := by
  have st := fmtW_step (d.kept.length - (2 + n.toNat)) d (2 + n.toNat) ok
  unfold fmtS
  split
  · exact ⟨ok, rfl, by simp; omega⟩
  · split
    · unfold andD
      split
      · exact ⟨st.1, st.2.1, by omega⟩
      · have f := flush_step _ st.1
        dsimp only
        split
        · exact ⟨f.1, by rw [f.2.1, st.2.1], by omega⟩
        · have s := saveS_step _ f.1 (hd1 n)
          exact ⟨s.1, by rw [s.2.1, f.2.1, st.2.1], by omega⟩
    · exact ⟨ok, rfl, by simp; omega⟩
/-- A device of so many blocks, with an empty log. -/
def madeD (n : Nat) (log : Int) : Dv := (fmtS (Dv.new n) log).1
theorem madeD_step {n : Nat} (h : n ≤ 900) (log : Int) : (madeD n log).Ok ∧ (madeD n log).kept.length = n ∧ (madeD n log).waits.length ≤ 901 := by
  have st := fmtS_step (Dv.new n) (Dv.new_ok (by omega)) log
  have e1 : (Dv.new n).kept.length = n := by simp [Dv.new]
  have e2 : (Dv.new n).waits.length = 0 := rfl
  exact ⟨st.1, st.2.1.trans e1, by have := st.2.2; unfold madeD; omega⟩
attribute [local irreducible] W WO SV OW SW Tri Ent Tk Has Src SrcK DA DB RdS Own MapH WetH
end Go.SL

/- Layer 10 (journal): what stays of a device. -/
namespace Go.SL
open Go.Proofs
set_option linter.unusedVariables false
set_option linter.unusedSimpArgs false
set_option linter.unusedSectionVars false
set_option maxRecDepth 10000
set_option maxHeartbeats 4000000
/-- A device behind some calls: right, as long, with at most so many more writes that wait. -/
def DStep (d e : Dv) (n : Nat) : Prop := e.Ok ∧ e.kept.length = d.kept.length ∧ e.waits.length ≤ d.waits.length + n
theorem DStep.trans {a b c : Dv} {n m : Nat} (x : DStep a b n) (y : DStep b c m) : DStep a c (n + m) := ⟨y.1, y.2.1.trans x.2.1, by have := x.2.2; have := y.2.2; omega⟩
theorem DStep.mono {a b : Dv} {n m : Nat} (x : DStep a b n) (h : n ≤ m) : DStep a b m := ⟨x.1, x.2.1, by have := x.2.2; omega⟩
theorem OnlyR.step {d e : Dv} (x : OnlyR d e) : DStep d e 0 := ⟨x.1, by rw [x.2.1], by rw [x.2.2.1]; exact Nat.le_refl _⟩
theorem andD_step {d : Dv} {r : Dv × Int} {k : Dv → Dv × Int} {n m : Nat} (x : DStep d r.1 n) (y : r.2 = 0 → DStep r.1 (k r.1).1 m) : DStep d (andD r k).1 (n + m) := by
  unfold andD
  split
  · exact x.mono (by omega)
  · rename_i h; exact x.trans (y (Classical.not_not.1 h))
theorem flush_Step (d : Dv) (ok : d.Ok) : DStep d d.flush.1 0 := flush_step d ok
theorem layC_step (g : Lg) : ∀ (cs : Chs) (d : Dv) (i : Nat), d.Ok → DStep d (layC g d cs i).1 cs.length := by
  intro cs
  induction cs with
  | nil => intro d i ok; exact ⟨ok, rfl, Nat.le_refl _⟩
  | cons x l ih =>
    intro d i ok
    have st : DStep d (d.put (g.place (1 + i) : Nat) (x.2.set 0 3)).1 1 := put_step d ok _ _
    unfold layC
    split
    · exact st.mono (by simp)
    · exact (st.trans (ih _ (i + 1) st.1)).mono (by simp only [List.length_cons]; omega)
theorem layF_step (d : Dv) (g : Lg) (cs : Chs) (ok : d.Ok) : DStep d (layF d g cs).1 (cs.length + 2) := by
  have s1 : DStep d (sealP d g 0 1 (cs.flatMap chB)).1 1 := put_step d ok _ _
  unfold layF
  refine (andD_step (m := cs.length + (0 + (1 + 0))) s1 fun _ => ?_).mono (by omega)
  have s2 := layC_step g cs _ 0 s1.1
  refine andD_step s2 fun _ => ?_
  have s3 := flush_Step _ s2.1
  refine andD_step s3 fun _ => ?_
  have s4 : DStep _ (sealP _ g (1 + cs.length) 2 []).1 1 := put_step _ s3.1 _ _
  exact andD_step s4 fun _ => flush_Step _ s4.1
theorem doneP_step (d : Dv) (g : Lg) (cs : Chs) (ok : d.Ok) : DStep d (doneP d g cs).1 (cs.length + 2) := by
  unfold doneP
  split <;> exact layF_step d g cs ok
theorem saveP_step (d : Dv) (g : Lg) (ep : Nat) (ok : d.Ok) : DStep d (saveP d g ep).1 1 := by
  unfold saveP
  split <;> exact saveS_step d ok _
theorem loadS_step (d : Dv) (ok : d.Ok) : DStep d (loadS d).1 0 := by
  obtain ⟨k1, k2, k3, k4, _⟩ := loadN_ok d ok (min 2 d.kept.length)
  unfold loadS
  split
  · exact ⟨ok, rfl, Nat.le_refl _⟩
  · split
    · exact ⟨k1, by rw [k2], by rw [k4]; exact Nat.le_refl _⟩
    · split
      · exact ⟨k1, by rw [k2], by rw [k4]; exact Nat.le_refl _⟩
      · exact ⟨k1, by rw [k2], by rw [k4]; exact Nat.le_refl _⟩
theorem saveS_zero {d : Dv} {h : Hd} (e : (saveS d h).2 = 0) : HdR h d.kept.length := by
  unfold saveS at e
  split at e
  · exact absurd e (by simp)
  · split at e
    · assumption
    · exact absurd e (by simp)
theorem openLg_w {h : Hd} {n : Nat} (hn : n ≤ 4096) (r : HdR h n) : LgW (openLg h) ∧ (openLg h).log + 3 ≤ n ∧ (openLg h).seq = h.seq ∧ (openLg h).cur < (openLg h).log := by
  unfold HdR at r
  unfold openLg Lg.log
  refine ⟨⟨?_, ?_, ?_, ?_, ?_, ?_⟩, ?_, ?_, ?_⟩ <;> (try unfold Lg.log) <;> dsimp only <;> omega
theorem readP_len : ∀ (f : Nat) (d : Dv) (g : Lg) (p : Nat) (all : Chs) (c : Chs), p ≤ g.log → all.length ≤ p → (readP f d g p all).2.2.1 = some c → c.length ≤ g.log := by
  intro f
  induction f with
  | zero => intro d g p all c h1 h2 h; injection h with h; subst h; exact Nat.le_trans h2 h1
  | succ f ih =>
    intro d g p all c h1 h2 h
    unfold readP at h
    have hone : ∀ x c' e, oneP d g (g.log - p) = (x, some c', e) → c'.length + 2 ≤ g.log - p := by
      intro x c' e he
      unfold oneP at he
      have hb : ∀ (b : Byt) (n : Nat) (d : Dv) (i : Nat) (acc : Chs) (x : Dv) (c : Chs) (e : Int), barL g b d n i acc = (x, some c, e) → c.length = acc.length + n := by
        intro b n
        induction n with
        | zero => intro d i acc x c e h; injection h with h1 h2; injection h2 with h2 h3; injection h2 with h2; subst h2; rfl
        | succ n ih =>
          intro d i acc x c e h
          unfold barL at h
          split at h
          · injection h with h1 h2; injection h2 with h2; cases h2
          · split at h
            · injection h with h1 h2; injection h2 with h2; cases h2
            · have := ih _ _ _ _ _ _ h; rw [this]; simp; omega
      split at he
      · injection he with q1 q2; injection q2 with q2; cases q2
      · rename_i hc
        split at he
        · injection he with q1 q2; injection q2 with q2; cases q2
        · rename_i d2 c2 e2 hb2
          have := hb _ _ _ _ _ _ _ _ hb2
          split at he
          · injection he with q1 q2; injection q2 with q2; cases q2
          · injection he with q1 q2; injection q2 with q2 q3; injection q2 with q2; subst q2
            rw [this]
            simp only [List.length_nil]
            omega
    generalize hq : oneP d g (g.log - p) = q at *
    obtain ⟨d2, o, e⟩ := q
    cases o with
    | none =>
      dsimp only at h
      split at h
      · cases h
      · injection h with h; subst h; omega
    | some c2 =>
      have := hone d2 c2 e rfl
      exact ih d2 { g with cur := (g.cur + c2.length + 2) % g.log, seq := g.seq + 1 } _ _ c (by show p + c2.length + 2 ≤ g.log; omega) (by simp; omega) h
theorem openP_step (d : Dv) (ok : d.Ok) : DStep d (openP d).1 4100 := by
  have s1 := loadS_step d ok
  have hr := loadS_right d ok
  have hsz := ok.size
  unfold openP
  split
  · exact s1.mono (by omega)
  · rename_i h0
    have hrt := (hr (Classical.not_not.1 h0)).2
    obtain ⟨w, hl, _, hc⟩ := openLg_w hsz hrt
    have h2 := readP_step ((loadS d).2.1.log.toNat + 1) (loadS d).1 (openLg (loadS d).2.1) 0 [] s1.1 (by have := w.l3; omega) hc
    have hl2 := readP_len ((loadS d).2.1.log.toNat + 1) (loadS d).1 (openLg (loadS d).2.1) 0 []
    generalize readP ((loadS d).2.1.log.toNat + 1) (loadS d).1 (openLg (loadS d).2.1) 0 [] = q at *
    obtain ⟨d2, g, o, e⟩ := q
    have s2 : DStep d d2 0 := s1.trans h2.1.step
    cases o with
    | none => exact s2.mono (by omega)
    | some all =>
      have hal := hl2 all (Nat.zero_le _) (Nat.le_refl _) rfl
      have s3 : DStep d2 (redoP d2 g all).1 all.length := redoP_step g all d2 s2.1
      have s4 := saveP_step (redoP d2 g all).1 g (g.hd.epoch + 1) s3.1
      have := w.l4
      dsimp only
      split
      · exact (s2.trans s3).mono (by omega)
      · split <;> exact ((s2.trans s3).trans s4).mono (by omega)
end Go.SL

/- Layer 13 (kv): blocks filled up, rows cut into blocks. -/
namespace Go.SL
open Go.Proofs
set_option linter.unusedVariables false
set_option linter.unusedSimpArgs false
set_option linter.unusedSectionVars false
set_option maxRecDepth 10000
set_option maxHeartbeats 4000000
/-- A block that begins with some bytes. -/
def padB (s : Byt) : Byt := s ++ List.replicate (256 - s.length) 0
theorem padB_len {s : Byt} (h : s.length ≤ 256) : (padB s).length = 256 := by simp [padB]; omega
attribute [local irreducible] W WO SV OW SW Tri Ent Tk Has Src SrcK DA DB RdS Own MapH WetH
theorem kv_padded (a : Option Addr) (c : Nat) (s : Byt) (L : List HP) (hn : s.length ≤ 256) (r : RdS 1 a s.length (s.map u8V) L) :
    TriE Tryz.prog 121 #[.slice a s.length c] (fun v M => ∃ a' c', v = .slice a' (padB s).length c' ∧ SomeA a' (padB s).length ∧ M = OS a' c' (padB s) :: L) L := by
  have hl := padB_len hn
  refine Tri.of (N := 9) (args := [.slice a s.length c]) Tryz.func121 rfl rfl rfl ?_
  refine go ?_
  refine WO.sv rfl ?_
  refine SV.makeSlice rfl (m := 256) rfl (by decide) (by decide) ?_
  intro b
  refine go ?_
  refine WO.sv rfl ?_
  refine SV.copyP rfl rfl (RdS.srcK r.cons) (by simp [u8V, isCell]) (by simp) (.inl (Nat.le_refl _)) (l' := (padB s).map u8V) ?_ (by simp; omega) rfl ?_
  · unfold padB
    simp only [Nat.mul_one, List.map_append, List.map_replicate, List.drop_replicate, List.length_take, List.length_map]
    rw [show min s.length 256 = s.length by omega, List.take_of_length_le (by simp), Nat.min_self]
    rfl
  refine go ?_
  refine ⟨rfl, [_], ⟨Res.tmp rfl, trivial⟩, OS (some ⟨b, 0, none⟩) 256 (padB s) :: L, ?_, some ⟨b, 0, none⟩, 256, by rw [hl]; rfl, fun _ => ⟨b, rfl⟩, rfl⟩
  unfold OS
  rw [hl]
  exact ent_own (E := 5) (sz := 1) (n := 256) (by simp [hl])
theorem kv_mapBlocks (n : Nat) (L : List HP) (h : n ≤ 100000) :
    TriE Tryz.prog 112 #[.int .i64 n] (fun v M => v = .int .i64 ((n + 2047) / 2048 : Nat) ∧ M = L) L := by
  refine Tri.of (N := 7) (args := [.int .i64 n]) Tryz.func112 rfl rfl rfl ?_
  refine go ?_
  refine ⟨rfl, [_], ⟨Res.tmp rfl, trivial⟩, _, ent, ?_, rfl⟩
  show Value.int _ _ = _
  congr 1
  omega
theorem sl_ChunkB (a : Option Addr) (c n : Nat) (L : List HP) :
    TriE Tryz.prog 122 #[.slice a n c, .int .i64 256] (fun v M => ∃ b1 b2, v = .func (.func 160) #[] [.pointer (some ⟨b1, 0, none⟩), .pointer (some ⟨b2, 0, none⟩)].toArray ∧ M = pts b1 (.cells [.slice a n c].toArray 28) :: pts b2 (.cells [.int .i64 256].toArray 3) :: L) L := by
  refine Tri.of (N := 9) (args := [.slice a n c, .int .i64 256]) Tryz.func122 rfl rfl rfl ?_
  refine go ?_
  intro b1
  refine go ?_
  intro b2
  refine go ?_
  refine WO.sv rfl ?_
  refine SV.makeFunc rfl ?_
  refine go ?_
  exact ⟨rfl, [_], ⟨Res.tmp rfl, trivial⟩, _, ent, b1, b2, rfl, rfl⟩
theorem sl_ChunkB1 (l b1 b2 ab ao c : Nat) (n : Nat) (J : Nat → HP) (hs : n ≤ 1000000) (hc : n ≤ c) (h0 : n ≠ 0)
    (hy : ∀ i, i * 256 < n → Yld Tryz.prog l [Value.slice (some ⟨ab, ao + i * 256, none⟩) (min 256 (n - i * 256)) (min 256 (n - i * 256))].toArray (fun v M => v = .bool true ∧ Ent M [J (i + 1)]) [J i]) :
    TriE Tryz.prog 160 #[.func (.yield l) #[] #[], .pointer (some ⟨b1, 0, none⟩), .pointer (some ⟨b2, 0, none⟩)] (fun v M => v = .tuple #[] ∧ M = [J ((n + 255) / 256)]) [pts b1 (.cells [.slice (some ⟨ab, ao, none⟩) n c].toArray 28), pts b2 (.cells [.int .i64 256].toArray 3), J 0] := by
  refine Tri.of (N := 31) (args := [.func (.yield l) #[] #[], .pointer (some ⟨b1, 0, none⟩), .pointer (some ⟨b2, 0, none⟩)]) Tryz.func160 rfl rfl rfl ?_
  refine go ?_
  refine W.loopS 2147483632 rfl (fun i : Nat => [(4, .int .i64 ((i * 256 : Nat) : Int))]) (fun i => [J i, pts b1 (.cells [.slice (some ⟨ab, ao, none⟩) n c].toArray 28), pts b2 (.cells [.int .i64 256].toArray 3)]) (fun i => i ≤ (n + 255) / 256) (fun i => (n + 255) / 256 - i) 0 ⟨rfl, trivial⟩ (Nat.zero_le _) (Ent.app ent) ?_
  intro i bg hi
  dsimp only at hi ⊢
  by_cases h9 : i * 256 < n
  · have hyi := hy i h9
    refine go ?_
    refine W.drawB #[0, 0, 0, 6, 14, 31, 63] [pts b1 (.cells [.slice (some ⟨ab, ao, none⟩) n c].toArray 28), pts b2 (.cells [.int .i64 256].toArray 3)] [J i] rfl (by kernel_rfl) (by kernel_rfl) (by kernel_rfl) ent ?_
    refine go ?_
    refine DB.q (v := .slice (some ⟨ab, if c = i * 256 then ao else ao + i * 256 * 1, none⟩) (n - i * 256) (c - i * 256)) rfl rfl hl (SV.cutX (l := i * 256) (h := n) rfl (cutAt.of rfl rfl) rfl (by omega) hc eqq) ?_
    refine go ?_
    rw [show min (256 : Int) ((n - i * 256 : Nat) : Int) = ((min 256 (n - i * 256) : Nat) : Int) by omega]
    have hpos : 0 < min 256 (n - i * 256) := by omega
    have hle : i * 256 + min 256 (n - i * 256) ≤ n := by omega
    generalize min 256 (n - i * 256) = m at *
    refine ⟨[J i, pts b1 (.cells [.slice (some ⟨ab, ao, none⟩) n c].toArray 28), pts b2 (.cells [.int .i64 256].toArray 3)], ent, ?_⟩
    refine go ?_
    refine WO.sv rfl ?_
    refine SV.cut3 (l := i * 256) (h := i * 256 + m) (m := i * 256 + m) rfl rfl rfl rfl (by omega) (by omega) (by omega) ?_
    rw [if_neg (show ¬ i * 256 + m = i * 256 by omega), show i * 256 + m - i * 256 = m by omega, Nat.mul_one]
    refine WO.yieldE (l := l) (vs := [.slice (some ⟨ab, ao + i * 256, none⟩) m m]) rfl rfl rfl (Yld.frame (L := [J i]) [pts b1 (.cells [.slice (some ⟨ab, ao, none⟩) n c].toArray 28), pts b2 (.cells [.int .i64 256].toArray 3)] hyi) ?_
    rintro v M ⟨M1, rfl, rfl, e⟩
    refine WO.ent (M := [J (i + 1), pts b1 (.cells [.slice (some ⟨ab, ao, none⟩) n c].toArray 28), pts b2 (.cells [.int .i64 256].toArray 3)]) (Ent.framed e _) ?_
    refine go ?_
    refine ⟨i + 1, ⟨?_, trivial⟩, rfl, by omega, by omega, Ent.app ent⟩
    show Value.int _ _ = Value.int _ _
    congr 1
    omega
  · obtain rfl : i = (n + 255) / 256 := by omega
    have h9' : ¬ ((((n + 255) / 256 * 256 : Nat) : Int) < n) := by omega
    refine go ?_
    exact ⟨rfl, [], trivial, _, ent, rfl, rfl⟩
end Go.SL

/- Layer 11: what its functions do, each walked once. -/
namespace Go.SL
open Go.Proofs
set_option linter.unusedVariables false
set_option linter.unusedSimpArgs false
set_option maxRecDepth 10000

attribute [local irreducible] W WO SV OW SW Tri Ent Tk Has Src SrcK DA DB RdS Own

/-- A row of bytes of one's own. -/
def OB (a : Option Addr) (c : Nat) (bs : List Nat) : HP := Own 5 1 (.slice a bs.length c) bs.length (bs.map u8)
/-- A set, as a value. -/
def BV (a : Option Addr) (c : Nat) (bs : List Nat) (n : Int) : Value := .agg #[.slice a bs.length c, .int .i64 n]
def clip (n : Int) : Nat := (max 0 (min n 4096)).toNat

theorem clip_eq (n : Int) : ((clip n : Nat) : Int) = max 0 (min n 4096) := by unfold clip; omega

theorem bm_NewP (n : Int) (L : List HP) : TriE Tryz.prog 120 #[.int .i64 n]
    (fun v M => ∃ b, v = .agg #[.slice (some ⟨b, 0, none⟩) ((clip n + 7) / 8) ((clip n + 7) / 8), .int .i64 (clip n)] ∧ M = pts b (.cells (List.replicate ((clip n + 7) / 8) (u8 0)).toArray 5) :: L) L := by
  refine Tri.of (N := 14) (args := [.int .i64 n]) Tryz.func120 rfl rfl rfl ?_
  refine go ?_
  intro b0
  refine go ?_
  refine WO.sv rfl ?_
  refine SV.makeSlice rfl (m := (clip n + 7) / 8) (by simp only [clip]; omega) (by simp only [clip]; omega) (by simp only [clip]; omega) ?_
  intro b1
  refine go ?_
  refine ⟨rfl, [_], ⟨Res.cell rfl le0 nl, trivial⟩, pts b1 (.cells (List.replicate ((clip n + 7) / 8) (u8 0)).toArray 5) :: L, ent, b1, ?_, rfl⟩
  simp only [retV, clip_eq]
theorem bm_New (n : Int) (L : List HP) : TriE Tryz.prog 120 #[.int .i64 n]
    (fun v M => ∃ a c, v = BV a c (List.replicate ((clip n + 7) / 8) 0) (clip n) ∧ SomeA a (List.replicate ((clip n + 7) / 8) 0).length ∧ M = OB a c (List.replicate ((clip n + 7) / 8) 0) :: L) L := by
  refine Tri.mono (bm_NewP n L) ?_
  rintro v L' ⟨M, e, b, rfl, rfl⟩
  refine ⟨_, e.trans (ent_own (sz := 1) (n := (clip n + 7) / 8) (by simp)), some ⟨b, 0, none⟩, (clip n + 7) / 8, ?_, fun _ => ⟨b, rfl⟩, ?_⟩
  · simp only [BV, List.length_replicate]
  · simp only [OB, List.length_replicate, List.map_replicate]

theorem bm_Len (a : Option Addr) (m c : Nat) (n : Int) (L : List HP) : TriE Tryz.prog 55 #[.agg #[.slice a m c, .int .i64 n]] (fun v M => v = .int .i64 n ∧ M = L) L := by
  refine Tri.of (N := 5) (args := [.agg #[.slice a m c, .int .i64 n]]) Tryz.func55 rfl rfl rfl ?_
  refine go ?_
  intro b0
  refine go ?_
  exact ⟨rfl, [_], ⟨Res.tmp rfl, trivial⟩, L, ent, rfl, rfl⟩

theorem bm_Bytes (a : Option Addr) (c : Nat) (bs : List Nat) (n : Int) (L : List HP) (h0 : bs.length ≤ 1000) (r : RdS 1 a bs.length (bs.map u8) L) :
    TriE Tryz.prog 86 #[BV a c bs n] (fun v M => ∃ a' c', v = .slice a' bs.length c' ∧ SomeA a' bs.length ∧ M = OB a' c' bs :: L) L := by
  refine Tri.of (N := 7) (args := [BV a c bs n]) Tryz.func86 rfl rfl rfl ?_
  refine go ?_
  intro b0
  refine go ?_
  refine WO.sv rfl ?_
  refine SV.lit0 ?_
  intro b1
  refine go ?_
  refine WO.ent (ent_own (sz := 1) (n := 0) rfl) ?_
  refine WO.sv rfl ?_
  refine SV.append rfl rfl rfl tk (RdS.src (RdS.cons r)) (by simp) (by simp [u8, isCell]) (by omega) rfl ?_
  intro a' c' ha'
  rw [show 0 + bs.length = bs.length from Nat.zero_add _] at ha' ⊢
  refine go ?_
  exact ⟨rfl, [_], ⟨Res.tmp rfl, trivial⟩, _, ent, a', c', rfl, ha', rfl⟩

/-! numbers -/
def bitB (bs : List Nat) (k : Nat) : Bool := (bs.getD (k / 8) 0).testBit (k % 8)
theorem OkB.get {bs : List Nat} (h : OkB bs) (j : Nat) : bs.getD j 0 < 256 := by
  rw [List.getD_eq_getElem?_getD]
  cases e : bs[j]? with
  | none => simp
  | some x => exact h x (List.mem_of_getElem? e)
theorem getu {bs : List Nat} {j : Nat} (h : j < bs.length) : (bs.map u8)[j]? = some (u8 (bs.getD j 0)) := by
  simp [h]
theorem u8bits : IntKind.bits .u8 = 8 := rfl
theorem u8_shr {x : Nat} {s : Int} (h0 : 0 ≤ s) (h1 : s < 8) : (x : Int).fdiv (2 ^ (min s.toNat (IntKind.bits .u8))) = ((x / 2 ^ s.toNat : Nat) : Int) := by
  rw [u8bits, Nat.min_eq_left (by omega), Int.fdiv_eq_ediv_of_nonneg _ (by exact Int.pow_nonneg (by decide))]
  norm_cast
theorem u8_and {a b : Int} (x y : Nat) (ha : a = x) (hb : b = y) (hx : x < 256) (hy : y < 256) : IntKind.wrap .u8 (((a % 2 ^ IntKind.bits .u8).toNat &&& (b % 2 ^ IntKind.bits .u8).toNat : Nat) : Int) = ((x &&& y : Nat) : Int) := by
  subst ha; subst hb
  have e1 : ((x : Int) % 2 ^ IntKind.bits .u8).toNat = x := by rw [u8bits]; omega
  have e2 : ((y : Int) % 2 ^ IntKind.bits .u8).toNat = y := by rw [u8bits]; omega
  rw [e1, e2]
  have := Nat.and_le_left (n := x) (m := y)
  exact u8w (by omega) (by omega)

def hasB (bs : List Nat) (n : Nat) (k : Int) : Bool := decide (0 ≤ k) && (decide (k < n) && bitB bs k.toNat)

theorem bm_Has (a : Option Addr) (c : Nat) (bs : List Nat) (n : Nat) (k : Int) (L : List HP) (h0 : bs.length ≤ 1000) (hn : n ≤ 8 * bs.length) (ok : OkB bs) (r : RdS 1 a bs.length (bs.map u8) L) :
    TriE Tryz.prog 115 #[BV a c bs n, .int .i64 k] (fun v M => v = .bool (hasB bs n k) ∧ M = L) L := by
  refine Tri.of (N := 26) (args := [BV a c bs n, .int .i64 k]) Tryz.func115 rfl rfl rfl ?_
  refine go ?_
  intro b0
  refine go ?_
  refine WO.sv rfl ?_
  refine SV.geqC rfl rfl ?_ ?_
  · intro h1
    refine go ?_
    refine WO.sv rfl ?_
    refine SV.lssC rfl rfl ?_ ?_
    · intro h2
      obtain ⟨b, off, rfl⟩ := r.at (by omega)
      refine go ?_
      have hj : (k / 8).toNat < bs.length := by omega
      refine WO.sv rfl ?_
      refine SV.loadR (k / 8).toNat rfl (RdS.cons r) (by rw [Nat.mul_one]) (getu hj) ?_
      refine go ?_
      refine WO.sv rfl ?_
      refine SV.shr rfl rfl (by omega) (u8_shr (by omega) (by omega)) ?_
      have h3 := ok.get (k / 8).toNat
      refine go ?_
      refine WO.sv rfl ?_
      refine SV.band rfl rfl (u8_and _ 1 rfl rfl (Nat.lt_of_le_of_lt (Nat.div_le_self _ _) h3) (by decide)) ?_
      refine goD ?_
      refine ⟨rfl, [_], ⟨Res.tmp rfl, trivial⟩, L, ent, ?_, rfl⟩
      show Value.bool (decide (((bs.getD (k / 8).toNat 0 / 2 ^ (k % 8).toNat &&& 1 : Nat) : Int) = 1)) = _
      have e1 : (k / 8).toNat = k.toNat / 8 := by omega
      have e2 : (k % 8).toNat = k.toNat % 8 := by omega
      simp only [hasB, decide_eq_true h1, decide_eq_true h2, Bool.true_and, bitB, Nat.testBit_eq_decide_div_mod_eq, Nat.and_one_is_mod, e1, e2]
      congr 1
      exact decide_eq_decide.2 (by omega)
    · intro h2
      refine go ?_
      refine ⟨rfl, [_], ⟨Res.tmp rfl, trivial⟩, L, ent, ?_, rfl⟩
      simp only [retV, hasB, decide_eq_false (show ¬ k < (n : Int) by omega), Bool.false_and, Bool.and_false]
      rfl
  · intro h1
    refine go ?_
    refine ⟨rfl, [_], ⟨Res.tmp rfl, trivial⟩, L, ent, ?_, rfl⟩
    simp only [retV, hasB, decide_eq_false (show ¬ 0 ≤ k by omega), Bool.false_and]
    rfl

def pop (x : Nat) : Nat := ((List.range 8).filter fun i => x.testBit i).length
theorem pop_le (x : Nat) : pop x ≤ 8 := by unfold pop; have := List.length_filter_le (fun i => x.testBit i) (List.range 8); simpa using this
theorem f_ones (x : Nat) (L : List HP) (hx : x < 256) : TriE Tryz.prog 107 #[u8 x] (fun v M => v = .int .i64 (pop x) ∧ M = L) L := by
  refine Tri.of (N := 6) (args := [u8 x]) Tryz.func107 rfl rfl rfl ?_
  refine go ?_
  refine WO.sv rfl ?_
  refine SV.indexS (i := (x : Int)) (k := .u8) (c := (pop x).toUInt8) rfl rfl (by omega) ?_ ?_
  · rw [Int.toNat_natCast]
    revert hx
    revert x
    decide
  refine go ?_
  refine ⟨rfl, [_], ⟨Res.tmp rfl, trivial⟩, L, ent, ?_, rfl⟩
  have := pop_le x
  have e : (pop x).toUInt8.toNat = pop x := by simp [Nat.toUInt8]; omega
  show Value.int .i64 (IntKind.wrap .i64 ((pop x).toUInt8.toNat : Int)) = _
  rw [e, i64w (by omega) (by omega)]

def sumPop (bs : List Nat) : Nat := (bs.map pop).sum
theorem sumPop_le (bs : List Nat) : sumPop bs ≤ 8 * bs.length := by
  induction bs with
  | nil => simp [sumPop]
  | cons x l ih => have := pop_le x; simp only [sumPop, List.map_cons, List.sum_cons, List.length_cons] at ih ⊢; omega
theorem sumPop_take {bs : List Nat} {i : Nat} (h : i < bs.length) : sumPop (bs.take (i + 1)) = sumPop (bs.take i) + pop (bs.getD i 0) := by
  rw [List.take_succ_eq_append_getElem h]
  simp only [sumPop, List.map_append, List.sum_append, List.map_cons, List.map_nil, List.sum_cons, List.sum_nil, Nat.add_zero]
  simp [h]
theorem bm_Used (a : Option Addr) (c : Nat) (bs : List Nat) (n : Int) (L : List HP) (h0 : bs.length ≤ 1000) (ok : OkB bs) (r : RdS 1 a bs.length (bs.map u8) L) :
    TriE Tryz.prog 56 #[BV a c bs n] (fun v M => v = .int .i64 (sumPop bs) ∧ M = L) L := by
  refine Tri.of (N := 19) (args := [BV a c bs n]) Tryz.func56 rfl rfl rfl ?_
  refine go ?_
  intro b0
  refine go ?_
  refine W.loopS 261672 rfl (fun i : Nat => [(3, i64V (sumPop (bs.take i))), (9, i64V i)]) (fun _ => pts b0 (.cells [Value.slice a bs.length c, Value.int IntKind.i64 n].toArray 30) :: L) (fun i => i ≤ bs.length) (fun i => bs.length - i) 0 ⟨rfl, rfl, trivial⟩ (Nat.zero_le _) (fun _ _ x => x) ?_
  intro i bg hi
  have hp := sumPop_le (bs.take i)
  rw [List.length_take] at hp
  refine goD ?_
  refine W.if rfl ?_ ?_
  · intro h1
    obtain ⟨b, off, rfl⟩ := r.at (by omega)
    refine go ?_
    refine WO.sv rfl ?_
    refine SV.loadR i rfl rds (by simp) (getu (by omega)) ?_
    refine go ?_
    refine WO.callE (vs := [u8 (bs.getD i 0)]) Tryz.func107 rfl rfl rfl rfl (f_ones _ _ (ok.get i)) ?_
    rintro v M ⟨rfl, rfl⟩
    have hq := pop_le (bs.getD i 0)
    refine go ?_
    refine ⟨i + 1, ⟨?_, rfl, trivial⟩, rfl, by omega, by omega, fun _ _ x => x⟩
    show Value.int .i64 _ = _
    rw [i64V, sumPop_take (by omega)]; rfl
  · intro h1
    refine go ?_
    refine ⟨rfl, [_], ⟨Res.tmp rfl, trivial⟩, L, ent, ?_, rfl⟩
    show Value.int .i64 _ = _
    rw [List.take_of_length_le (by omega)]
end Go.SL
