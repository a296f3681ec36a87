/- Layer 3 (ids): rows of ids are sorted, and each kept once, walked. -/
import Derived.Test.YthdfbmdfmfndhaaZ1
namespace Go.SL
open Go.Proofs
set_option linter.unusedVariables false
set_option linter.unusedSimpArgs false
set_option linter.unusedSectionVars false
set_option maxRecDepth 10000
set_option maxHeartbeats 4000000
/-- The first so many ids, each that is the one ahead of it left out. -/
def compN (s : List BL) : Nat → List BL
  | 0 => []
  | m + 1 => if m ≠ 0 ∧ s.getD m [] = s.getD (m - 1) [] then compN s m else compN s m ++ [s.getD m []]
def compF (s : List BL) : List BL := compN s s.length
theorem compN_le (s : List BL) : ∀ m, (compN s m).length ≤ m
  | 0 => Nat.le_refl _
  | m + 1 => by
    have := compN_le s m
    unfold compN
    split
    · omega
    · simp; omega
theorem compN_pos (s : List BL) : ∀ m, 0 < m → 0 < (compN s m).length
  | 0, h => by omega
  | m + 1, _ => by
    unfold compN
    split
    · rename_i h; exact compN_pos s m (by omega)
    · simp
theorem compN_32 {s : List BL} (h : All32 s) : ∀ m, m ≤ s.length → All32 (compN s m)
  | 0, _ => fun i hi => by cases hi
  | m + 1, hm => by
    have ih := compN_32 h m (by omega)
    unfold compN
    split
    · exact ih
    · intro i hi
      rcases List.mem_append.1 hi with h1 | h1
      · exact ih i h1
      · obtain rfl := List.mem_singleton.1 h1
        exact getD32 h (by omega)
theorem take_succ' {s : List BL} {m : Nat} (h : m < s.length) : s.take (m + 1) = s.take m ++ [s.getD m []] := by
  rw [List.take_succ_eq_append_getElem h, List.getD_eq_getElem?_getD, List.getElem?_eq_getElem h]; rfl
/-- The ids ahead, and those that were there. -/
def mixN (P s : List BL) : List BL := P ++ s.drop P.length
theorem mixN_len {P s : List BL} (h : P.length ≤ s.length) : (mixN P s).length = s.length := by simp [mixN]; omega
theorem mixN_get {P s : List BL} {j : Nat} (h : P.length ≤ j) : (mixN P s).getD j [] = s.getD j [] := by
  unfold mixN
  rw [List.getD_eq_getElem?_getD, List.getElem?_append_right h, List.getElem?_drop, List.getD_eq_getElem?_getD]
  congr 2; omega
theorem mixN_set {P s : List BL} {x : BL} (h : P.length < s.length) : (mixN P s).set P.length x = mixN (P ++ [x]) s := by
  unfold mixN
  rw [List.set_append_right _ _ (Nat.le_refl _), Nat.sub_self]
  have : s.drop P.length = s[P.length] :: s.drop (P.length + 1) := (List.getElem_cons_drop h).symm
  rw [this, List.set_cons_zero, List.append_assoc, List.length_append]
  rfl
theorem mixN_32 {P s : List BL} (hp : All32 P) (hs : All32 s) : All32 (mixN P s) := fun i hi => by
  unfold mixN at hi
  rcases List.mem_append.1 hi with h1 | h1
  · exact hp i h1
  · exact hs i (List.mem_of_mem_drop h1)
theorem mixN_take (s : List BL) (m : Nat) (h : m ≤ s.length) : mixN (s.take m) s = s := by
  unfold mixN; rw [List.length_take, Nat.min_eq_left h, List.take_append_drop]
attribute [local irreducible] W WO SV OW SW Tri Ent Tk Has Src SrcK DA DB DP RdS Own OwnT MapH
theorem bi_Len (x : Nat) (L : List HP) (hx : x < 18446744073709551616) :
    TriE Try.prog 73 #[.int .u64 x] (fun r M => ∃ n : Nat, r = .int .i64 n ∧ M = L) L := by
  refine Tri.of (N := 8) (args := [.int .u64 x]) Try.func73 rfl rfl rfl ?_
  refine go ?_
  refine WO.callE (vs := [.int .u64 x]) Try.func63 rfl rfl rfl rfl (bi_Len64 x L hx) ?_
  rintro r M ⟨n, rfl, _, _, _, rfl⟩
  refine go ?_
  exact ⟨rfl, [_], ⟨Res.tmp rfl, trivial⟩, _, ent, n, rfl, rfl⟩
theorem sl_Sort (b c : Nat) (s : List BL) (L : List HP) (h32 : All32 s) (h1 : 1 ≤ s.length) (hn : s.length ≤ 12) :
    TriE Try.prog 57 #[.slice (some ⟨b, 0, none⟩) s.length c, .func (.func 58) #[] #[]] (fun v M => v = .tuple #[] ∧ M = OI (some ⟨b, 0, none⟩) c (sortF s) :: L) (OI (some ⟨b, 0, none⟩) c s :: L) := by
  refine Tri.of (N := 14) (args := [.slice (some ⟨b, 0, none⟩) s.length c, .func (.func 58) #[] #[]]) Try.func57 rfl rfl rfl ?_
  refine go ?_
  refine WO.callE (vs := [.int .u64 s.length]) Try.func73 rfl rfl rfl rfl (bi_Len s.length _ (by omega)) ?_
  rintro r M ⟨m, rfl, rfl⟩
  refine go ?_
  refine WO.callE (vs := [.slice (some ⟨b, 0, none⟩) s.length c, .int .i64 0, .int .i64 s.length, .int .i64 m, .func (.func 58) #[] #[]]) Try.func72 rfl rfl rfl rfl (sl_pdq b c m s L h32 h1 hn) ?_
  rintro v M ⟨rfl, rfl⟩
  refine go ?_
  exact ⟨rfl, [], trivial, _, ent, rfl, rfl⟩
theorem sl_Compact (b c : Nat) (s : List BL) (L : List HP) (h32 : All32 s) (h1 : 1 ≤ s.length) (hn : s.length ≤ 1000000) :
    TriE Try.prog 59 #[.slice (some ⟨b, 0, none⟩) s.length c] (fun v M => v = .slice (some ⟨b, 0, none⟩) (compF s).length c ∧ M = OI (some ⟨b, 0, none⟩) c (compF s) :: L) (OI (some ⟨b, 0, none⟩) c s :: L) := by
  have rd : ∀ X, RdS 32 (some ⟨b, 0, none⟩) s.length (rowI s) (OI (some ⟨b, 0, none⟩) c s :: X) := fun X => RdS.OI h32 (fun _ => ⟨b, rfl⟩)
  have hrl := rowI_len h32
  refine Tri.of (N := 61) (args := [.slice (some ⟨b, 0, none⟩) s.length c]) Try.func59 rfl rfl rfl ?_
  refine W.ownCap (show Tk _ (Own 58 32 (.slice (some ⟨b, 0, none⟩) s.length c) s.length (rowI s)) _ from by unfold OI; exact Tk.here) fun hcap => ?_
  by_cases h2 : s.length < 2
  · have he : compF s = s := by
      obtain ⟨x, rfl⟩ := List.length_eq_one_iff.1 (show s.length = 1 by omega)
      rfl
    rw [he]
    refine go ?_
    exact ⟨rfl, [_], ⟨Res.tmp rfl, trivial⟩, _, ent, rfl, rfl⟩
  refine go ?_
  refine W.loopS 1152921504606846012 rfl (fun k : Nat => [(3, .int .i64 (k : Int))]) (fun k => OI (some ⟨b, 0, none⟩) c s :: L) (fun k => 1 ≤ k ∧ k ≤ s.length ∧ compN s k = s.take k) (fun k => s.length - k) 1 ⟨rfl, trivial⟩ ⟨Nat.le_refl _, h1, ?_⟩ (Ent.app ent) ?_
  · obtain ⟨x, l, rfl⟩ : ∃ x l, s = x :: l := by
      cases s with
      | nil => simp at h1
      | cons x l => exact ⟨x, l, rfl⟩
    rfl
  rintro k bg ⟨hk1, hk, hc⟩
  try dsimp only at hk1 hk hc ⊢
  by_cases h9 : k < s.length
  rotate_left
  · obtain rfl : k = s.length := by omega
    have he : compF s = s := by unfold compF; rw [hc, List.take_length]
    rw [he]
    refine go ?_
    exact ⟨rfl, [_], ⟨Res.tmp rfl, trivial⟩, _, ent, rfl, rfl⟩
  have g1 := rowI_at h32 (j := k - 1) (by omega)
  have g2 := rowI_at h32 (j := k) (by omega)
  have l1 := getD32 h32 (j := k - 1) (by omega)
  have l2 := getD32 h32 (j := k) (by omega)
  have hst : compN s (k + 1) = if k ≠ 0 ∧ s.getD k [] = s.getD (k - 1) [] then compN s k else compN s k ++ [s.getD k []] := rfl
  have htk := take_succ' h9
  refine go ?_
  refine W.drawB #[0, 0, 3, 7, 0, 0, 32, 112, 240, 511] [OI (some ⟨b, 0, none⟩) c s] L rfl (by kernel_rfl) (by kernel_rfl) (by kernel_rfl) ent ?_
  refine go ?_
  refine DB.q (v := .agg ((s.getD k []).map u8V).toArray) rfl rfl hl (SV.loadRN (k := 32) (vs := (s.getD k []).map u8V) (k * 32) rfl (rd _) (by omega) (by decide) (by rw [hrl]; omega) g2 eqq) ?_
  refine go ?_
  refine DB.q (v := .agg ((s.getD (k - 1) []).map u8V).toArray) rfl rfl hl (SV.loadRN (k := 32) (vs := (s.getD (k - 1) []).map u8V) ((k - 1) * 32) rfl (rd _) (by omega) (by decide) (by rw [hrl]; omega) g1 eqq) ?_
  refine go ?_
  refine DB.q (v := .bool (decide (s.getD k [] = s.getD (k - 1) []))) rfl rfl hl (SV.eqlBytes rfl rfl Try.underlying58 Try.underlying5 rfl (by kernel_rfl) (by kernel_rfl) l2 l1 eqq) ?_
  refine go ?_
  refine ⟨OI (some ⟨b, 0, none⟩) c s :: L, ent, ?_⟩
  by_cases hx : s.getD k [] = s.getD (k - 1) []
  · rw [decide_eq_true hx]
    rw [if_pos ⟨by omega, hx⟩, hc] at hst
    refine go ?_
    refine WO.sv rfl ?_
    refine SV.cut (l := k) (h := s.length) rfl (cutAt.of rfl (by omega)) rfl (by omega) (by omega) ?_
    intro off' hof
    obtain rfl : off' = 0 + k * 32 := hof (.inl (by omega))
    refine go ?_
    refine W.loopS 18014397972611112 rfl (fun q : Nat × List BL => [(3, .int .i64 (q.2.length : Int)), (5, .int .i64 (q.1 : Int))]) (fun q => OI (some ⟨b, 0, none⟩) c (mixN q.2 s) :: L)
      (fun q => 1 ≤ q.1 ∧ k + q.1 ≤ s.length ∧ compN s (k + q.1) = q.2 ∧ q.2.length + 1 ≤ k + q.1) (fun q => s.length - q.1) (1, s.take k) ⟨?_, rfl, trivial⟩ ⟨Nat.le_refl _, by omega, hst, ?_⟩ (Ent.app (by dsimp only; rw [mixN_take s k (by omega)]; exact ent)) ?_
    · show Value.int _ _ = Value.int _ _
      rw [List.length_take, Nat.min_eq_left (by omega)]
    · dsimp only; rw [List.length_take, Nat.min_eq_left (by omega)]; omega
    clear hst htk g1 g2 l1 l2 hx hc
    rintro ⟨j, P⟩ bg2 ⟨hj1, hj, hP, hPl⟩
    dsimp only at hj1 hj hP hPl ⊢
    have hP32 := compN_32 h32 (k + j) hj
    have hPp := compN_pos s (k + j) (by omega)
    rw [hP] at hP32 hPp
    have hml := mixN_len (P := P) (s := s) (by omega)
    have hm32 := mixN_32 hP32 h32
    have hmr := rowI_len hm32
    rw [hml] at hmr
    by_cases h10 : k + j < s.length
    · have g1 := rowI_at hm32 (j := k + j - 1) (by omega)
      have g2 := rowI_at hm32 (j := k + j) (by omega)
      have l2 := getD32 h32 (j := k + j) (by omega)
      have l1 := getD32 h32 (j := k + j - 1) (by omega)
      rw [mixN_get (by omega)] at g1 g2
      have hst : compN s (k + j + 1) = if k + j ≠ 0 ∧ s.getD (k + j) [] = s.getD (k + j - 1) [] then compN s (k + j) else compN s (k + j) ++ [s.getD (k + j) []] := rfl
      have rm : ∀ X, RdS 32 (some ⟨b, 0, none⟩) (mixN P s).length (rowI (mixN P s)) (OI (some ⟨b, 0, none⟩) c (mixN P s) :: X) := fun X => RdS.OI hm32 (fun _ => ⟨b, rfl⟩)
      have p1 := rowI_set hm32 (j := P.length) (by omega) l2
      rw [mixN_set (by omega)] at p1
      generalize hx1 : s.getD (k + j - 1) [] = x at *
      generalize hx2 : s.getD (k + j) [] = y at *
      rw [hP] at hst
      refine go ?_
      refine W.drawB #[0, 0, 3, 7, 0, 0, 32, 112, 240, 511] [OI (some ⟨b, 0, none⟩) c (mixN P s)] L rfl (by kernel_rfl) (by kernel_rfl) (by kernel_rfl) ent ?_
      refine go ?_
      refine DB.q (v := .agg (y.map u8V).toArray) rfl rfl hl (SV.loadRN (k := 32) (vs := y.map u8V) ((k + j) * 32) rfl (rm _) (by omega) (by decide) (by rw [hmr]; omega) g2 eqq) ?_
      refine go ?_
      refine DB.q (v := .agg (x.map u8V).toArray) rfl rfl hl (SV.loadRN (k := 32) (vs := x.map u8V) ((k + j - 1) * 32) rfl (rm _) (by omega) (by decide) (by rw [hmr]; omega) g1 eqq) ?_
      refine go ?_
      refine DB.q (v := .bool (!decide (y = x))) rfl rfl hl (SV.neqBytes rfl rfl Try.underlying58 Try.underlying5 rfl (by kernel_rfl) (by kernel_rfl) l2 l1 eqq) ?_
      refine go ?_
      refine ⟨OI (some ⟨b, 0, none⟩) c (mixN P s) :: L, ent, ?_⟩
      by_cases hxy : y = x
      · rw [decide_eq_true hxy]
        rw [if_pos ⟨by omega, hxy⟩] at hst
        refine go ?_
        exact ⟨(j + 1, P), ⟨rfl, rfl, trivial⟩, rfl, ⟨by dsimp only; omega, by dsimp only; omega, hst, by dsimp only; omega⟩, by dsimp only; omega, Ent.app ent⟩
      · rw [decide_eq_false hxy]
        rw [if_neg (fun z => hxy z.2)] at hst
        refine go ?_
        refine WO.sv rfl ?_
        refine SV.loadRN (k := 32) (vs := y.map u8V) ((k + j) * 32) rfl (rm _) (by omega) (by decide) (by rw [hmr]; omega) g2 ?_
        refine go ?_
        refine WO.sv rfl ?_
        refine SV.storeON (k := 32) (v := .agg (y.map u8V).toArray) (vs := y.map u8V) (n := s.length) (c := c) (P.length * 32) rfl (show Tk _ (Own 58 32 (.slice (some ⟨b, 0, none⟩) s.length c) s.length (rowI (mixN P s))) _ from by unfold OI; rw [hml]; exact Tk.here) (by omega) rfl Cel.agg (by rw [List.length_map, l2]) (by decide) (u8_cell _) (by rw [hmr]; omega) p1 ?_
        refine go ?_
        refine ⟨(j + 1, P ++ [y]), ⟨?_, rfl, trivial⟩, rfl, ⟨by dsimp only; omega, by dsimp only; omega, hst, ?_⟩, by dsimp only; omega, Ent.app ?_⟩
        · show Value.int _ _ = Value.int _ _
          congr 1; simp
        · dsimp only; simp; omega
        · dsimp only
          unfold OI
          rw [mixN_len (by simp; omega)]
          exact ent
    · have hks : k + j = s.length := by omega
      have hPf : compF s = P := by unfold compF; rw [← hks]; exact hP
      rw [hPf]
      have hsp : rowI (mixN P s) = rowI P ++ rowI (s.drop P.length) := by unfold mixN; rw [rowI_app]
      have hPr := rowI_len hP32
      have hdr : (rowI (s.drop P.length)).length = (s.length - P.length) * 32 := by
        rw [rowI_len (fun i hi => h32 i (List.mem_of_mem_drop hi)), List.length_drop]
      refine go ?_
      refine WO.sv rfl ?_
      refine SV.cut (l := P.length) (h := s.length) rfl (cutAt.of rfl (by omega)) rfl (by omega) (by omega) ?_
      intro off' hof
      have hoo : P.length < c → off' = P.length * 32 := fun z => by have := hof (.inl z); omega
      refine go ?_
      refine WO.sv rfl ?_
      refine SV.clearO (E := 58) (sz := 32) (n := s.length) (c := c) (b := b) (m := s.length - P.length) (xs := rowI P) (ys := rowI (s.drop P.length)) rfl (show Tk _ (Own 58 32 (.slice (some ⟨b, 0, none⟩) s.length c) s.length (rowI P ++ rowI (s.drop P.length))) _ from by unfold OI; rw [hml, hsp]; exact Tk.here) (fun _ => by rw [hPr]; exact hoo (by omega)) (by rw [hdr]; rfl) (by decide) rfl ?_
      intro zs hzs
      refine go ?_
      refine WO.sv rfl ?_
      refine SV.cut (l := 0) (h := P.length) rfl rfl (cutAt.of rfl (by omega)) (by omega) (by omega) ?_
      intro off2 hof2
      obtain rfl : off2 = 0 + 0 * 32 := hof2 (.inr rfl)
      refine go ?_
      exact ⟨rfl, [_], ⟨Res.tmp rfl, trivial⟩, OI (some ⟨b, 0, none⟩) c P :: L, by unfold OI; exact own_shrink hPr (by omega) (by omega), rfl, rfl⟩
  · rw [decide_eq_false hx]
    rw [if_neg (fun z => hx z.2), hc, ← htk] at hst
    refine go ?_
    exact ⟨k + 1, ⟨rfl, trivial⟩, rfl, ⟨by omega, by omega, hst⟩, by omega, Ent.app ent⟩
end Go.SL

/- Layer 3 (ids): sets made of ids, and how one goes through them, walked. -/
namespace Go.SL
open Go.Proofs
set_option linter.unusedVariables false
set_option linter.unusedSimpArgs false
set_option linter.unusedSectionVars false
set_option maxRecDepth 10000
set_option maxHeartbeats 4000000
def ofF (s : List BL) : List BL := compF (sortF s)
theorem ofF_32 {s : List BL} (h : All32 s) : All32 (ofF s) := compN_32 h.sortF _ (Nat.le_refl _)
attribute [local irreducible] W WO SV OW SW Tri Ent Tk Has Src SrcK DA DB DP RdS Own OwnT MapH
theorem id_Of (a : Option Addr) (c : Nat) (s : List BL) (L : List HP) (h32 : All32 s) (h1 : 1 ≤ s.length) (hn : s.length ≤ 12) (r : RdS 32 a s.length (rowI s) L) :
    TriE Try.prog 36 #[.slice a s.length c] (fun v M => ∃ b' c', v = .slice (some ⟨b', 0, none⟩) (ofF s).length c' ∧ M = OI (some ⟨b', 0, none⟩) c' (ofF s) :: L) L := by
  refine Tri.of (N := 10) (args := [.slice a s.length c]) Try.func36 rfl rfl rfl ?_
  refine go ?_
  refine WO.callE (vs := [.slice a s.length c]) Try.func56 rfl rfl rfl rfl (sl_CloneJ a c s L (by omega) h32 r) ?_
  rintro v M ⟨a', c', rfl, ha, rfl⟩
  obtain ⟨b', rfl⟩ := ha (by omega)
  refine go ?_
  refine WO.callE (vs := [.slice (some ⟨b', 0, none⟩) s.length c', .func (.func 58) #[] #[]]) Try.func57 rfl rfl rfl rfl (sl_Sort b' c' s L h32 h1 hn) ?_
  rintro v M ⟨rfl, rfl⟩
  refine go ?_
  have hs := sortF_len s
  refine WO.callE (vs := [.slice (some ⟨b', 0, none⟩) (sortF s).length c']) Try.func59 rfl rfl (by rw [hs]; rfl) rfl (sl_Compact b' c' (sortF s) L h32.sortF (by omega) (by omega)) ?_
  rintro v M ⟨rfl, rfl⟩
  refine go ?_
  exact ⟨rfl, [_], ⟨Res.tmp rfl, trivial⟩, _, ent, b', c', rfl, rfl⟩
theorem id_right (a : Option Addr) (c : Nat) (s : List BL) (L : List HP) (h32 : All32 s) (hs : s.length < 1000000) (hr : rightF s = true) (r : RdS 32 a s.length (rowI s) L) :
    TriE Try.prog 38 #[.slice a s.length c] (fun v M => v = .slice a s.length c ∧ M = L) L := by
  refine Tri.of (N := 8) (args := [.slice a s.length c]) Try.func38 rfl rfl rfl ?_
  refine go ?_
  refine WO.callE (vs := [.slice a s.length c]) Try.func50 rfl rfl rfl rfl (id_Right a c s L h32 hs r) ?_
  rintro v M ⟨rfl, rfl⟩
  rw [hr]
  refine go ?_
  exact ⟨rfl, [_], ⟨Res.tmp rfl, trivial⟩, _, ent, rfl, rfl⟩
theorem sl_Values (a : Option Addr) (c n : Nat) (L : List HP) :
    TriE Try.prog 75 #[.slice a n c] (fun v M => ∃ b, v = .func (.func 89) #[] [.pointer (some ⟨b, 0, none⟩)].toArray ∧ M = pts b (.cells [.slice a n c].toArray 39) :: L) L := by
  refine Tri.of (N := 4) (args := [.slice a n c]) Try.func75 rfl rfl rfl ?_
  refine go ?_
  intro b
  refine go ?_
  refine WO.sv rfl ?_
  refine SV.makeFunc rfl ?_
  refine go ?_
  exact ⟨rfl, [_], ⟨Res.tmp rfl, trivial⟩, _, ent, b, rfl, rfl⟩
theorem id_All (a : Option Addr) (c n : Nat) (L : List HP) :
    TriE Try.prog 60 #[.slice a n c] (fun v M => ∃ b, v = .func (.func 89) #[] [.pointer (some ⟨b, 0, none⟩)].toArray ∧ M = pts b (.cells [.slice a n c].toArray 39) :: L) L := by
  refine Tri.of (N := 5) (args := [.slice a n c]) Try.func60 rfl rfl rfl ?_
  refine go ?_
  refine WO.callE (vs := [.slice a n c]) Try.func75 rfl rfl rfl rfl (sl_Values a c n L) ?_
  rintro v M ⟨b, rfl, rfl⟩
  refine go ?_
  exact ⟨rfl, [_], ⟨Res.tmp rfl, trivial⟩, _, ent, b, rfl, rfl⟩
theorem sl_Values1 (l b : Nat) (a : Option Addr) (c : Nat) (s : List BL) (J : Nat → HP) (h32 : All32 s) (hs : s.length < 1000000) (hr : ∀ i, i ≤ s.length → RdS 32 a s.length (rowI s) [J i])
    (hy : ∀ i, i < s.length → Yld Try.prog l [Value.agg ((s.getD i []).map u8V).toArray].toArray (fun v M => v = .bool true ∧ Ent M [J (i + 1)]) [J i]) :
    TriE Try.prog 89 #[.func (.yield l) #[] #[], .pointer (some ⟨b, 0, none⟩)] (fun v M => v = .tuple #[] ∧ M = [J s.length]) [pts b (.cells [.slice a s.length c].toArray 39), J 0] := by
  have hrl := rowI_len h32
  refine Tri.of (N := 16) (args := [.func (.yield l) #[] #[], .pointer (some ⟨b, 0, none⟩)]) Try.func89 rfl rfl rfl ?_
  refine go ?_
  refine W.loopS 65424 rfl (fun i : Nat => [(7, .int .i64 (i : Int))]) (fun i => [J i]) (fun i => i ≤ s.length) (fun i => s.length - i) 0 ⟨rfl, trivial⟩ (Nat.zero_le _) (Ent.app ent) ?_
  intro i bg hi
  try dsimp only at hi ⊢
  by_cases h9 : i < s.length
  · obtain ⟨b3, o3, rfl⟩ := (hr i hi).at (by omega)
    have g := rowI_at h32 h9
    have lg := getD32 h32 h9
    have hyi := hy i h9
    generalize s.getD i [] = x at *
    have hmx : (x.map u8V).length = 32 := by rw [List.length_map, lg]
    refine go ?_
    refine WO.sv rfl ?_
    refine SV.loadRN (k := 32) (vs := x.map u8V) (i * 32) rfl (hr i hi) (by omega) (by decide) (by rw [hrl]; omega) g ?_
    refine WO.sv rfl ?_
    refine SV.alloc ?_
    intro b4
    refine WO.sv rfl ?_
    refine SV.store (vs := x.map u8V) (l' := x.map u8V) rfl rfl Cel.agg (by rw [hmx]; rfl) (wo_ne lg) (u8_cell _) (.inl (Nat.le_refl _)) (by decide) (lput_full (by rw [hmx]; rfl)) ?_
    refine go ?_
    refine WO.sv rfl ?_
    refine SV.loadN (vs := x.map u8V) rfl (sub_full hmx) (by rw [hmx]; decide) ?_
    refine WO.ent (M := [J i]) ent ?_
    refine WO.yieldE (l := l) (vs := [.agg (x.map u8V).toArray]) rfl rfl rfl hyi ?_
    rintro v M ⟨rfl, e⟩
    refine WO.ent e ?_
    refine go ?_
    exact ⟨i + 1, ⟨rfl, trivial⟩, rfl, h9, by omega, Ent.app ent⟩
  · obtain rfl : i = s.length := by omega
    refine go ?_
    exact ⟨rfl, [], trivial, _, ent, rfl, rfl⟩
end Go.SL

/- Layer 3 (ids): whether a set has an id, walked. -/
namespace Go.SL
open Go.Proofs
set_option linter.unusedVariables false
set_option linter.unusedSimpArgs false
set_option linter.unusedSectionVars false
set_option maxRecDepth 10000
set_option maxHeartbeats 4000000
/-- Where an id would stand. -/
def bsF (s : List BL) (x : BL) : Nat → Nat → Nat → Nat
  | 0, i, _ => i
  | f + 1, i, j => if i < j then (if cmpI (s.getD ((i + j) / 2) []) x < 0 then bsF s x f ((i + j) / 2 + 1) j else bsF s x f i ((i + j) / 2)) else i
theorem bsF_le (s : List BL) (x : BL) : ∀ f i j, i ≤ j → bsF s x f i j ≤ j
  | 0, i, j, h => h
  | f + 1, i, j, h => by
    unfold bsF
    split
    · split
      · exact bsF_le s x f _ _ (by omega)
      · exact Nat.le_trans (bsF_le s x f _ _ (by omega)) (by omega)
    · exact h
def bsI (s : List BL) (x : BL) : Nat := bsF s x s.length 0 s.length
def hasF (s : List BL) (x : BL) : Bool := decide (bsI s x < s.length) && decide (cmpI (s.getD (bsI s x) []) x = 0)
theorem entC {A : HP} {L : List HP} : Ent (A :: L) [A, SL.conj L] := fun h x => Has.cons_of ent_conj x
theorem unC {A : HP} {L : List HP} : Ent [A, SL.conj L] (A :: L) := fun h x => Has.cons_of unconj x
attribute [local irreducible] W WO SV OW SW Tri Ent Tk Has Src SrcK DA DB DP RdS Own OwnT MapH
theorem sl_Binary (a : Option Addr) (c : Nat) (s : List BL) (x : BL) (L : List HP) (h32 : All32 s) (hx : x.length = 32) (hs : s.length < 1000000) (r : RdS 32 a s.length (rowI s) L) :
    TriE Try.prog 62 #[.slice a s.length c, .agg (x.map u8V).toArray, .func (.func 58) #[] #[]] (fun v M => v = .tuple [.int .i64 (bsI s x : Nat), .bool (hasF s x)].toArray ∧ M = L) L := by
  have hrl := rowI_len h32
  have hmx : (x.map u8V).length = 32 := by rw [List.length_map, hx]
  refine Tri.of (N := 49) (args := [.slice a s.length c, .agg (x.map u8V).toArray, .func (.func 58) #[] #[]]) Try.func62 rfl rfl rfl ?_
  refine go ?_
  intro b1
  refine go ?_
  refine W.loopS 34359709184 rfl (fun q : Nat × Nat × Nat => [(9, .int .i64 (q.2.1 : Int)), (10, .int .i64 (q.2.2 : Int))]) (fun q => pts b1 (.cells (x.map u8V).toArray 58) :: L)
    (fun q => q.2.2 ≤ q.1 + q.2.1 ∧ q.2.1 ≤ q.2.2 ∧ q.2.2 ≤ s.length ∧ bsF s x q.1 q.2.1 q.2.2 = bsI s x) (fun q => q.2.2 - q.2.1) (s.length, 0, s.length) ⟨rfl, rfl, trivial⟩ ⟨by dsimp only; omega, Nat.zero_le _, Nat.le_refl _, rfl⟩ (Ent.app ent) ?_
  rintro ⟨f, i, j⟩ bg ⟨h1, h2, h3, h4⟩
  dsimp only at h1 h2 h3 h4 ⊢
  by_cases h9 : i < j
  · obtain ⟨f, rfl⟩ : ∃ g, f = g + 1 := ⟨f - 1, by omega⟩
    have hst : bsF s x (f + 1) i j = if i < j then (if cmpI (s.getD ((i + j) / 2) []) x < 0 then bsF s x f ((i + j) / 2 + 1) j else bsF s x f i ((i + j) / 2)) else i := rfl
    rw [if_pos h9] at hst
    have hm : (i + j) / 2 < s.length := by omega
    have g := rowI_at h32 hm
    have lg := getD32 h32 hm
    obtain ⟨b2, o2, rfl⟩ := r.at (by omega)
    have hsh : ((i : Int) + (j : Int)).fdiv (2 ^ (min ((1 : Int)).toNat (IntKind.bits .u64))) = (((i + j) / 2 : Nat) : Int) := by
      have := shrN (i + j) 1 (by decide)
      rw [show (((i + j : Nat)) : Int) = (i : Int) + (j : Int) by omega] at this
      exact this
    rw [hst] at h4
    clear hst
    generalize hmm : (i + j) / 2 = m at *
    refine go ?_
    refine WO.sv rfl ?_
    refine SV.shr rfl rfl (by decide) hsh ?_
    generalize s.getD m [] = y at *
    refine go ?_
    refine W.drawB #[0, 0, 0, 6, 14, 0, 63, 127] [pts b1 (.cells (x.map u8V).toArray 58), SL.conj L] [] rfl (by kernel_rfl) (by kernel_rfl) (by kernel_rfl) entC ?_
    refine go ?_
    refine DB.q (v := .agg (y.map u8V).toArray) rfl rfl hl (SV.loadRN (k := 32) (vs := y.map u8V) (m * 32) rfl (RdS.ent unconj r).cons (by omega) (by decide) (by rw [hrl]; omega) g eqq) ?_
    refine DB.q (v := .agg (x.map u8V).toArray) rfl rfl hl (SV.loadN (vs := x.map u8V) rfl (sub_full hmx) (by rw [hmx]; decide) eqq) ?_
    refine DB.callW (vs := [.agg (y.map u8V).toArray, .agg (x.map u8V).toArray]) (cs := []) rfl Try.func58 rfl rfl rfl rfl hl hl (id_compare y x lg hx _) ?_
    rintro v M ⟨rfl, rfl⟩
    refine ⟨[], [], ent, ?_⟩
    by_cases hc : cmpI y x < 0
    · rw [if_pos hc] at h4
      refine DB.q (v := .bool true) rfl rfl hl (SV.lssT rfl rfl hc eqq) ?_
      refine go ?_
      refine ⟨pts b1 (.cells (x.map u8V).toArray 58) :: L, unC, ?_⟩
      refine go ?_
      exact ⟨(f, m + 1, j), ⟨rfl, rfl, trivial⟩, rfl, ⟨by dsimp only; omega, by dsimp only; omega, h3, h4⟩, by dsimp only; omega, Ent.app ent⟩
    · rw [if_neg hc] at h4
      refine DB.q (v := .bool false) rfl rfl hl (SV.lssF rfl rfl (by omega) eqq) ?_
      refine go ?_
      refine ⟨pts b1 (.cells (x.map u8V).toArray 58) :: L, unC, ?_⟩
      refine go ?_
      exact ⟨(f, i, m), ⟨rfl, rfl, trivial⟩, rfl, ⟨by dsimp only; omega, by dsimp only; omega, by dsimp only; omega, h4⟩, by dsimp only; omega, Ent.app ent⟩
  · obtain rfl : i = j := by omega
    have hb : bsI s x = i := by
      rw [← h4]
      cases f with
      | zero => rfl
      | succ f => unfold bsF; rw [if_neg h9]
    have hh : hasF s x = (decide (i < s.length) && decide (cmpI (s.getD i []) x = 0)) := by unfold hasF; rw [hb]
    rw [hb, hh]
    clear h4 hb hh
    by_cases h10 : i < s.length
    · rw [decide_eq_true h10, Bool.true_and]
      have g := rowI_at h32 h10
      have lg := getD32 h32 h10
      obtain ⟨b2, o2, rfl⟩ := r.at (by omega)
      generalize s.getD i [] = y at *
      refine go ?_
      refine W.drawB #[0, 0, 0, 6, 14, 30, 30, 30, 222, 478, 30, 2046, 4094, 8190, 4095, 32767] [pts b1 (.cells (x.map u8V).toArray 58), SL.conj L] [] rfl (by kernel_rfl) (by kernel_rfl) (by kernel_rfl) entC ?_
      refine go ?_
      refine DB.q (v := .agg (y.map u8V).toArray) rfl rfl hl (SV.loadRN (k := 32) (vs := y.map u8V) (i * 32) rfl (RdS.ent unconj r).cons (by omega) (by decide) (by rw [hrl]; omega) g eqq) ?_
      refine DB.q (v := .agg (x.map u8V).toArray) rfl rfl hl (SV.loadN (vs := x.map u8V) rfl (sub_full hmx) (by rw [hmx]; decide) eqq) ?_
      refine DB.callW (vs := [.agg (y.map u8V).toArray, .agg (x.map u8V).toArray]) (cs := []) rfl Try.func58 rfl rfl rfl rfl hl hl (id_compare y x lg hx _) ?_
      rintro v M ⟨rfl, rfl⟩
      refine ⟨[], [], ent, ?_⟩
      refine DB.q (v := .bool (decide (cmpI y x = 0))) rfl rfl hl (SV.eql rfl rfl eqq) ?_
      refine go ?_
      refine ⟨pts b1 (.cells (x.map u8V).toArray 58) :: L, unC, ?_⟩
      refine go ?_
      exact ⟨rfl, [_, _], ⟨Res.tmp rfl, Res.tmp rfl, trivial⟩, L, ent, rfl, rfl⟩
    · rw [decide_eq_false h10, Bool.false_and]
      refine go ?_
      refine W.drawB #[0, 0, 0, 6, 14, 30, 30, 30, 222, 478, 30, 2046, 4094, 8190, 4095, 32767] [] (pts b1 (.cells (x.map u8V).toArray 58) :: L) rfl (by kernel_rfl) (by kernel_rfl) (by kernel_rfl) ent ?_
      refine go ?_
      refine ⟨pts b1 (.cells (x.map u8V).toArray 58) :: L, ent, ?_⟩
      refine go ?_
      exact ⟨rfl, [_, _], ⟨Res.tmp rfl, Res.tmp rfl, trivial⟩, L, ent, rfl, rfl⟩
theorem id_Has (a : Option Addr) (c : Nat) (s : List BL) (x : BL) (L : List HP) (h32 : All32 s) (hx : x.length = 32) (hs : s.length < 1000000) (hr : rightF s = true) (r : RdS 32 a s.length (rowI s) L) :
    TriE Try.prog 41 #[.slice a s.length c, .agg (x.map u8V).toArray] (fun v M => v = .bool (hasF s x) ∧ M = L) L := by
  have hmx : (x.map u8V).length = 32 := by rw [List.length_map, hx]
  refine Tri.of (N := 20) (args := [.slice a s.length c, .agg (x.map u8V).toArray]) Try.func41 rfl rfl rfl ?_
  refine go ?_
  intro b1
  refine go ?_
  refine WO.callE (vs := [.slice a s.length c]) Try.func50 rfl rfl rfl rfl (id_Right a c s _ h32 hs r.cons) ?_
  rintro v M ⟨rfl, rfl⟩
  rw [hr]
  refine go ?_
  refine WO.sv rfl ?_
  refine SV.loadN (vs := x.map u8V) rfl (sub_full hmx) (by rw [hmx]; decide) ?_
  refine WO.callE (vs := [.slice a s.length c, .agg (x.map u8V).toArray, .func (.func 58) #[] #[]]) Try.func62 rfl rfl rfl rfl (sl_Binary a c s x _ h32 hx hs r.cons) ?_
  rintro v M ⟨rfl, rfl⟩
  refine go ?_
  exact ⟨rfl, [_], ⟨Res.tmp rfl, trivial⟩, L, ent, rfl, rfl⟩
end Go.SL

/- Layer 3 (ids): the ids of a set of which something is so, walked. -/
namespace Go.SL
open Go.Proofs
set_option linter.unusedVariables false
set_option linter.unusedSimpArgs false
set_option linter.unusedSectionVars false
set_option maxRecDepth 10000
set_option maxHeartbeats 4000000
instance : TA Try.prog 90 false := ⟨by kernel_rfl⟩
instance : TS Try.prog 90 1 := ⟨by kernel_rfl⟩
theorem laid_one {z vs : List Value} {v : Value} {n : Nat} (hz : z.length = n) (hv : vs.length = n) : laid (fun i => some (i * n, n)) z [(0, v, vs)] = some vs := by
  simp only [laid, Nat.zero_mul]
  rw [hv, Nat.beq_refl, Nat.zero_add, hz, Nat.ble_self_eq_true n]
  simp only [Bool.and_self, cond_true]
  exact congrArg some (lput_full (by rw [hz, hv]))
theorem Yld.hex {P : Program} {l : Nat} {vs : Array Value} {K : Value → List HP → Prop} {α : Type} {N : α → List HP} (h : ∀ x, Yld P l vs K (N x)) : Yld P l vs K [SL.hex fun x => SL.conj (N x)] := fun ro Fr w x => by
  obtain ⟨q, y⟩ := has_hex.1 x
  exact h q ro Fr w (has_conj.1 y)
theorem Yld.pure {P : Program} {l : Nat} {vs : Array Value} {K : Value → List HP → Prop} {p : Prop} {L : List HP} (h : p → Yld P l vs K L) : Yld P l vs K (hpure p :: L) := fun ro Fr w x => h (has_pure.1 x).1 ro Fr w (has_pure.1 x).2
theorem Ent.swap2 {A B : HP} {L : List HP} : Ent (A :: B :: L) (B :: A :: L) := fun _ y => Has.swap y
theorem TriE.post {P : Program} {g : FuncId} {args : Array Value} {Q Q' : Value → List HP → Prop} {L : List HP} (t : TriE P g args Q L) (k : ∀ v M, Q v M → ∃ M', Ent M M' ∧ Q' v M') : TriE P g args Q' L :=
  Tri.mono t fun v L' ⟨M, e, q⟩ => let ⟨M', e', q'⟩ := k v M q; ⟨M', e.trans e', q'⟩
theorem Ent.unpure {p : Prop} {L M : List HP} (h : p → Ent L M) : Ent (hpure p :: L) M := fun k x => h (has_pure.1 x).1 k (has_pure.1 x).2
theorem Ent.unhex {α : Type} {N : α → List HP} {M : List HP} (h : ∀ x, Ent (N x) M) : Ent [SL.hex fun x => SL.conj (N x)] M := fun k x => by
  obtain ⟨q, y⟩ := has_hex.1 x
  exact h q k (by have := has_conj.1 y; rwa [List.append_nil] at this)
theorem Ent.tohex {α : Type} {N : α → List HP} {L : List HP} (x : α) (h : Ent L (N x)) : Ent L [SL.hex fun x => SL.conj (N x)] := fun k y => has_hex.2 ⟨x, has_conj.2 (by rw [List.append_nil]; exact h k y)⟩
attribute [local irreducible] W WO SV OW SW Tri Ent Tk Has Src SrcK DA DB DP RdS Own OwnT MapH
theorem id_Less1 (bx : Nat) (a : Option Addr) (c : Nat) (s : List BL) (x : BL) (L : List HP) (h32 : All32 s) (hx : x.length = 32) (hs : s.length < 1000000) (hr : rightF s = true) (r : RdS 32 a s.length (rowI s) L) :
    TriE Try.prog 40 #[.agg (x.map u8V).toArray, .pointer (some ⟨bx, 0, none⟩)] (fun v M => v = .bool (!hasF s x) ∧ M = pts bx (.cells [.slice a s.length c].toArray 39) :: L) (pts bx (.cells [.slice a s.length c].toArray 39) :: L) := by
  have hmx : (x.map u8V).length = 32 := by rw [List.length_map, hx]
  refine Tri.of (N := 8) (args := [.agg (x.map u8V).toArray, .pointer (some ⟨bx, 0, none⟩)]) Try.func40 rfl rfl rfl ?_
  refine go ?_
  intro b1
  refine go ?_
  refine WO.sv rfl ?_
  refine SV.loadN (vs := x.map u8V) rfl (sub_full hmx) (by rw [hmx]; decide) ?_
  refine WO.callE (vs := [.slice a s.length c, .agg (x.map u8V).toArray]) Try.func41 rfl rfl rfl rfl (id_Has a c s x _ h32 hx hs hr r.cons.cons) ?_
  rintro v M ⟨rfl, rfl⟩
  refine go ?_
  exact ⟨rfl, [_], ⟨Res.tmp rfl, trivial⟩, _, ent, rfl, rfl⟩
theorem id_keep (a : Option Addr) (c : Nat) (s : List BL) (g : Nat) (cs : List Value) (p : BL → Bool) (C : HP) (fn : Func) (cd : Code) (hf : Try.prog.funcs[g]? = some fn) (hb : fn.body = some cd) (hn : (fn.name == "runtime.NumGoroutine") = false)
    (hp : ∀ x : BL, x.length = 32 → TriE Try.prog g (Value.agg (x.map u8V).toArray :: cs).toArray (fun v M => v = .bool (p x) ∧ M = [C]) [C]) (h32 : All32 s) (hs : s.length < 1000000) (hr : rightF s = true) (r : RdS 32 a s.length (rowI s) [C]) :
    TriE Try.prog 39 #[.slice a s.length c, .func (.func g) #[] cs.toArray] (fun v M => ∃ a' c', v = .slice a' (s.filter p).length c' ∧ SomeA a' (s.filter p).length ∧ M = [OI a' c' (s.filter p), C]) [C] := by
  refine Tri.ofD (N := 19) (args := [.slice a s.length c, .func (.func g) #[] cs.toArray]) Try.func39 rfl rfl rfl ?_
  refine go ?_
  intro b3
  refine go ?_
  intro b5
  refine go ?_
  refine WO.callE (vs := [.slice a s.length c]) Try.func38 rfl rfl rfl rfl (id_right a c s _ h32 hs hr r.cons.cons) ?_
  rintro v M ⟨rfl, rfl⟩
  refine go ?_
  refine WO.callE (vs := [.slice a s.length c]) Try.func60 rfl rfl rfl rfl (id_All a c s.length _) ?_
  rintro v M ⟨b9, rfl, rfl⟩
  refine go ?_
  have hf1 : ∀ i, i < s.length → p (s.getD i []) = true → (s.take (i + 1)).filter p = (s.take i).filter p ++ [s.getD i []] := fun i hi hp => by
    rw [take_succ' hi, List.filter_append, List.filter_cons_of_pos hp, List.filter_nil]
  have hf2 : ∀ i, i < s.length → p (s.getD i []) = false → (s.take (i + 1)).filter p = (s.take i).filter p := fun i hi hp => by
    rw [take_succ' hi, List.filter_append, List.filter_cons_of_neg (by rw [hp]; decide), List.filter_nil, List.append_nil]
  have hfl : ∀ i, ((s.take i).filter p).length ≤ s.length := fun i => Nat.le_trans (List.length_filter_le _ _) (List.length_take_le' _ _)
  refine W.rangeF (lb := [.pointer (some ⟨b9, 0, none⟩)]) rfl Try.func89 rfl rfl ?_
  intro D l r0 hrec
  generalize hJ : (fun i : Nat => SL.hex fun q : Option Addr × Nat => SL.conj [hpure (SomeA q.1 ((s.take i).filter p).length), OI q.1 q.2 ((s.take i).filter p), pts l (.loop r0), pts b5 (.cells [.slice q.1 ((s.take i).filter p).length q.2].toArray 39), pts b3 (.cells [.func (.func g) #[] cs.toArray].toArray 90), C]) = J
  have hJi : ∀ i, J i = SL.hex fun q : Option Addr × Nat => SL.conj [hpure (SomeA q.1 ((s.take i).filter p).length), OI q.1 q.2 ((s.take i).filter p), pts l (.loop r0), pts b5 (.cells [.slice q.1 ((s.take i).filter p).length q.2].toArray 39), pts b3 (.cells [.func (.func g) #[] cs.toArray].toArray 90), C] := fun i => by rw [← hJ]
  refine TriE.ent (A := [pts b9 (.cells [.slice a s.length c].toArray 39), J 0]) ?_ (TriE.mono (sl_Values1 l b9 a c s J h32 hs ?_ ?_) ?_)
  · refine Ent.take tk ?_
    rw [hJi]
    refine Ent.tohex (none, 0) (Ent.pure (fun z => absurd rfl z) ?_)
    unfold OI
    exact Ent.ownNil ent
  · intro i _
    rw [hJi]
    exact RdS.ent (Ent.unhex fun q => ent) r
  · intro i hi
    rw [hJi i]
    refine Yld.hex fun q => ?_
    obtain ⟨a', c'⟩ := q
    refine Yld.pure fun hsa => ?_
    dsimp only at hsa ⊢
    have h1 := hf1 i hi
    have h2 := hf2 i hi
    have lg := getD32 h32 hi
    have hol := hfl i
    have hJn := hJi (i + 1)
    generalize s.getD i [] = x at *
    generalize ho : (s.take i).filter p = out at *
    have hmx : (x.map u8V).length = 32 := by rw [List.length_map, lg]
    refine Yld.ent (M := pts l (.loop r0) :: [OI a' c' out, pts b5 (.cells [.slice a' out.length c'].toArray 39), pts b3 (.cells [.func (.func g) #[] cs.toArray].toArray 90), C]) ent ?_
    refine Yld.mono (K := fun v M => v = .bool true ∧ ∃ M', M = pts l (.loop r0) :: M' ∧ Ent (pts l (.loop r0) :: M') [J (i + 1)]) (Yld.of (K := fun M' => Ent (pts l (.loop r0) :: M') [J (i + 1)]) hrec rfl ?_) (fun v M ⟨z, M', e, k⟩ => ⟨z, e ▸ k⟩)
    refine go ?_
    intro b6
    refine WO.sv rfl ?_
    refine SV.store (vs := x.map u8V) (l' := x.map u8V) rfl rfl Cel.agg (by rw [hmx]; rfl) (wo_ne lg) (u8_cell _) (.inl (Nat.le_refl _)) (by decide) (lput_full (by rw [hmx]; rfl)) ?_
    refine go ?_
    refine WO.sv rfl ?_
    refine SV.loadN (vs := x.map u8V) rfl (sub_full hmx) (by rw [hmx]; decide) ?_
    refine WO.ent (M := [C] ++ [pts b6 (.cells (x.map u8V).toArray 58), OI a' c' out, pts b5 (.cells [.slice a' out.length c'].toArray 39), pts b3 (.cells [.func (.func g) #[] cs.toArray].toArray 90)]) ent ?_
    refine WO.callW (vs := [.agg (x.map u8V).toArray]) (cs := cs) rfl hf hb hn rfl rfl (TriE.frame _ (hp x lg)) ?_
    rintro v M ⟨M', rfl, rfl, rfl⟩
    refine WO.ent (M := [C, pts b6 (.cells (x.map u8V).toArray 58), OI a' c' out, pts b5 (.cells [.slice a' out.length c'].toArray 39), pts b3 (.cells [.func (.func g) #[] cs.toArray].toArray 90)]) ent ?_
    cases hpx : p x with
    | false =>
      have h3 := h2 hpx
      rw [h3] at hJn
      refine go ?_
      show Ent _ _
      rw [hJn]
      refine Ent.tohex (a', c') (Ent.pure hsa ?_)
      exact ent
    | true =>
      have h3 := h1 hpx
      rw [h3] at hJn
      refine go ?_
      refine WO.sv rfl ?_
      refine SV.loadN (vs := x.map u8V) rfl (sub_full hmx) (by rw [hmx]; decide) ?_
      refine WO.sv rfl ?_
      refine SV.lit (sz := 32) rfl rfl rfl (Parts.cons (v := .agg (x.map u8V).toArray) rfl Cel.agg Parts.nil) (laid_one (n := 32) rfl hmx) rfl ?_
      intro bl
      refine WO.sv rfl ?_
      unfold OI
      refine SV.append rfl rfl rfl tk (RdS.src (RdS.all (sz := 32) (n := 1) (by rw [hmx]))) (by rw [hmx]) (u8_cell _) (by omega) rfl ?_
      intro a2 c2 ha2
      refine go ?_
      show Ent _ _
      rw [hJn]
      refine Ent.tohex (a2, c2) (Ent.pure (by dsimp only; rw [List.length_append]; exact ha2) ?_)
      dsimp only
      unfold OI
      rw [List.length_append, rowI_app, rowI_one]
      exact ent
  · rintro v M ⟨rfl, rfl⟩
    have hJn := hJi s.length
    rw [List.take_length] at hJn
    generalize s.filter p = out at *
    refine ⟨[SL.hex fun q : Option Addr × Nat => SL.conj [hpure (SomeA q.1 out.length), OI q.1 q.2 out, pts b5 (.cells [.slice q.1 out.length q.2].toArray 39), C]], ?_, ?_⟩
    · rw [hJn]
      exact Ent.unhex fun q => Ent.unpure fun hq => Ent.take tk (Ent.tohex q (Ent.pure hq ent))
    · change W _ _ _ _ _ _ _
      refine W.ent Ent.swap2 (W.openI fun q hq => ?_)
      obtain ⟨a', c'⟩ := q
      dsimp only at hq ⊢
      refine W.ent (M := [OI a' c' out, pts b5 (.cells [.slice a' out.length c'].toArray 39), C, pts D (.deferred (some []))]) ent ?_
      refine go ?_
      exact ⟨D, [OI a' c' out, C], rfl, ent, [_], ⟨Res.tmp rfl, trivial⟩, _, Ent.refl _, a', c', rfl, hq, rfl⟩
theorem id_LessOf (a1 : Option Addr) (c1 : Nat) (s : List BL) (a2 : Option Addr) (c2 : Nat) (o : List BL) (L : List HP) (hs32 : All32 s) (ho32 : All32 o) (hs : s.length < 1000000) (ho : o.length < 1000000) (rs : rightF s = true) (ro : rightF o = true)
    (r1 : RdS 32 a1 s.length (rowI s) L) (r2 : RdS 32 a2 o.length (rowI o) L) :
    TriE Try.prog 22 #[.slice a1 s.length c1, .slice a2 o.length c2] (fun v M => ∃ a' c', v = .slice a' (s.filter fun x => !hasF o x).length c' ∧ M = L) L := by
  refine Tri.of (N := 11) (args := [.slice a1 s.length c1, .slice a2 o.length c2]) Try.func22 rfl rfl rfl ?_
  refine go ?_
  refine WO.callE (vs := [.slice a2 o.length c2]) Try.func38 rfl rfl rfl rfl (id_right a2 c2 o _ ho32 ho ro r2) ?_
  rintro v L ⟨rfl, rfl⟩
  refine go ?_
  intro bx
  refine go ?_
  refine WO.sv rfl ?_
  refine SV.makeFunc (cs := [.pointer (some ⟨bx, 0, none⟩)]) rfl ?_
  refine WO.ent (M := [SL.conj (pts bx (.cells [.slice a2 o.length c2].toArray 39) :: L)]) ent_conj ?_
  refine WO.callE (vs := [.slice a1 s.length c1, .func (.func 40) #[] [.pointer (some ⟨bx, 0, none⟩)].toArray]) Try.func39 rfl rfl rfl rfl
    (id_keep a1 c1 s 40 [.pointer (some ⟨bx, 0, none⟩)] (fun x => !hasF o x) _ _ _ Try.func40 rfl rfl
      (fun x hx => TriE.ent unconj (TriE.post (id_Less1 bx a2 c2 o x _ ho32 hx ho ro r2) fun v M ⟨h1, h2⟩ => ⟨_, h2 ▸ ent_conj, h1, rfl⟩)) hs32 hs rs (RdS.ent unconj r1.cons)) ?_
  rintro v M ⟨a', c', rfl, _, rfl⟩
  refine go ?_
  exact ⟨rfl, [_], ⟨Res.tmp rfl, trivial⟩, _, Ent.drop (unconj.trans ent), a', c', rfl, rfl⟩
end Go.SL

/- Layers 3 and 14 (ids, update): sets within others, unions, bytes of sets and of an update, walked. -/
namespace Go.SL
open Go.Proofs
set_option linter.unusedVariables false
set_option linter.unusedSimpArgs false
set_option linter.unusedSectionVars false
set_option maxRecDepth 10000
set_option maxHeartbeats 4000000
attribute [local irreducible] W WO SV OW SW Tri Ent Tk Has Src SrcK DA DB DP RdS Own OwnT MapH
theorem id_Within (a1 : Option Addr) (c1 : Nat) (s : List BL) (a2 : Option Addr) (c2 : Nat) (o : List BL) (L : List HP) (hs32 : All32 s) (ho32 : All32 o) (hs : s.length < 1000000) (ho : o.length < 1000000) (rs : rightF s = true) (ro : rightF o = true)
    (r1 : RdS 32 a1 s.length (rowI s) L) (r2 : RdS 32 a2 o.length (rowI o) L) :
    TriE Try.prog 16 #[.slice a1 s.length c1, .slice a2 o.length c2] (fun v M => v = .bool (decide ((s.filter fun x => !hasF o x).length = 0)) ∧ M = L) L := by
  refine Tri.of (N := 10) (args := [.slice a1 s.length c1, .slice a2 o.length c2]) Try.func16 rfl rfl rfl ?_
  refine go ?_
  refine WO.callE (vs := [.slice a1 s.length c1, .slice a2 o.length c2]) Try.func22 rfl rfl rfl rfl (id_LessOf a1 c1 s a2 c2 o L hs32 ho32 hs ho rs ro r1 r2) ?_
  rintro v L ⟨a', c', rfl, rfl⟩
  generalize (s.filter fun x => !hasF o x).length = n
  refine go ?_
  refine WO.sv rfl ?_
  refine SV.eql (a := (n : Int)) (b := 0) rfl rfl ?_
  refine go ?_
  exact ⟨rfl, [_], ⟨Res.tmp rfl, trivial⟩, _, ent, congrArg Value.bool (by rw [decide_eq_decide]; omega), rfl⟩
theorem id_Or (a1 : Option Addr) (c1 : Nat) (s : List BL) (a2 : Option Addr) (c2 : Nat) (o : List BL) (L : List HP) (hs32 : All32 s) (ho32 : All32 o) (h1 : 1 ≤ s.length + o.length) (h12 : s.length + o.length ≤ 12)
    (r1 : RdS 32 a1 s.length (rowI s) L) (r2 : RdS 32 a2 o.length (rowI o) L) :
    TriE Try.prog 21 #[.slice a1 s.length c1, .slice a2 o.length c2] (fun v M => ∃ b' c', v = .slice (some ⟨b', 0, none⟩) (ofF (s ++ o)).length c' ∧ M = OI (some ⟨b', 0, none⟩) c' (ofF (s ++ o)) :: L) L := by
  have h32 : All32 (s ++ o) := fun i hi => (List.mem_append.1 hi).elim (hs32 i) (ho32 i)
  refine Tri.of (N := 10) (args := [.slice a1 s.length c1, .slice a2 o.length c2]) Try.func21 rfl rfl rfl ?_
  refine go ?_
  refine WO.callE (vs := [.slice a1 s.length c1]) Try.func37 rfl rfl rfl rfl (sl_CloneI a1 c1 s L (by omega) hs32 r1) ?_
  rintro v M ⟨a', c', rfl, ha', rfl⟩
  refine go ?_
  refine WO.sv rfl ?_
  unfold OI
  refine SV.append rfl rfl rfl Tk.here (RdS.src r2) (by rw [r2.len]) (rowI_cell o) (by omega) rfl ?_
  intro a3 c3 ha3
  obtain ⟨b3, rfl⟩ := ha3 (by omega)
  have hlen : (s ++ o).length = s.length + o.length := List.length_append
  rw [← rowI_app, ← hlen]
  refine WO.ent (M := OI (some ⟨b3, 0, none⟩) c3 (s ++ o) :: L) (by unfold OI; exact ent) ?_
  refine WO.callE (vs := [.slice (some ⟨b3, 0, none⟩) (s ++ o).length c3]) Try.func36 rfl rfl rfl rfl (id_Of (some ⟨b3, 0, none⟩) c3 (s ++ o) _ h32 (by omega) (by omega) (RdS.OI h32 (fun _ => ⟨b3, rfl⟩))) ?_
  rintro v M ⟨b', c', rfl, rfl⟩
  refine go ?_
  exact ⟨rfl, [_], ⟨Res.tmp rfl, trivial⟩, OI (some ⟨b', 0, none⟩) c' (ofF (s ++ o)) :: L, by unfold OI; exact ent, b', c', rfl, by unfold OI; rfl⟩
end Go.SL

/- Layers 3 and 14 (ids, update): the bytes of a set, walked. -/
namespace Go.SL
open Go.Proofs
set_option linter.unusedVariables false
set_option linter.unusedSimpArgs false
set_option linter.unusedSectionVars false
set_option maxRecDepth 10000
set_option maxHeartbeats 4000000
def putI (s : List BL) : BL := encN s.length ++ s.flatMap id
theorem Ent.drop4 {A B C : HP} (L : List HP) : Ent ([A, B, C] ++ L) [A, B, C, SL.conj L] := fun h x => Has.cons_of (fun h x => Has.cons_of (fun h x => Has.cons_of (fun h x => has_conj.2 (by rw [List.append_nil]; exact x)) x) x) x
attribute [local irreducible] W WO SV OW SW Tri Ent Tk Has Src SrcK DA DB DP RdS Own OwnT MapH
theorem id_Put (a : Option Addr) (c : Nat) (s : List BL) (L : List HP) (h32 : All32 s) (hs : s.length < 1000) (r : RdS 32 a s.length (rowI s) L) :
    TriE Try.prog 46 #[.slice a s.length c] (fun v M => ∃ a' c', v = .slice a' (putI s).length c' ∧ SomeA a' (putI s).length ∧ M = OS a' c' (putI s) :: L) L := by
  refine Tri.ofD (N := 17) (args := [.slice a s.length c]) Try.func46 rfl rfl rfl ?_
  refine go ?_
  refine WO.sv rfl ?_
  refine SV.lit rfl rfl rfl parts rfl nl ?_
  intro b8
  refine go ?_
  refine WO.callE (vs := [.slice none 0 0, .slice (some ⟨b8, 0, none⟩) 1 1]) Try.func44 rfl rfl rfl rfl (l1_Put none 0 [] (some ⟨b8, 0, none⟩) 1 [s.length] _ (by simp) (by simp) (by simp; omega) RdS.nil (RdS.all (sz := 1) (n := 1) rfl)) ?_
  rintro v M ⟨a0, c0, rfl, ha0, rfl⟩
  have he1 : ([] : BL) ++ ([s.length] : List Nat).flatMap encN = encN s.length := by simp
  have hel := encN_len (v := s.length) (by omega)
  rw [he1] at ha0 ⊢
  have hpi : ∀ i, i < s.length → (encN s.length ++ (s.take (i + 1)).flatMap id) = (encN s.length ++ (s.take i).flatMap id) ++ s.getD i [] := fun i hi => by
    rw [take_succ' hi, List.flatMap_append, List.append_assoc]; simp
  have hpl : ∀ i, i ≤ s.length → (encN s.length ++ (s.take i).flatMap id).length ≤ 100000 := fun i hi => by
    have : ∀ l : List BL, All32 l → (l.flatMap id).length = l.length * 32 := by
      intro l
      induction l with
      | nil => intro _; rfl
      | cons x l ih =>
        intro h
        rw [List.flatMap_cons, List.length_append, ih fun i hi => h i (List.mem_cons_of_mem _ hi), show (id x : BL).length = 32 from h x List.mem_cons_self, List.length_cons]; omega
    rw [List.length_append, this _ fun j hj => h32 j (List.mem_of_mem_take hj), List.length_take, Nat.min_eq_left hi]
    omega
  have hp0 : encN s.length ++ (s.take 0).flatMap id = encN s.length := by rw [List.take_zero, List.flatMap_nil, List.append_nil]
  have hpn : encN s.length ++ (s.take s.length).flatMap id = putI s := by rw [List.take_length]; rfl
  generalize hP : (fun i => encN s.length ++ (s.take i).flatMap id) = P
  have hPi : ∀ i, encN s.length ++ (s.take i).flatMap id = P i := fun i => by rw [← hP]
  simp only [hPi] at hpi hpl hp0 hpn
  rw [← hp0] at ha0 ⊢
  rw [← hpn]
  clear he1 hel hP hPi
  refine go ?_
  intro b3
  refine go ?_
  refine WO.callE (vs := [.slice a s.length c]) Try.func60 rfl rfl rfl rfl (id_All a c s.length _) ?_
  rintro v M ⟨b9, rfl, rfl⟩
  refine go ?_
  refine W.ent (M := [pts b9 (.cells [.slice a s.length c].toArray 39), pts b3 (.cells [.slice a0 (P 0).length c0].toArray 75), OS a0 c0 (P 0)] ++ L) ent ?_
  have toC : Ent ([pts b9 (.cells [.slice a s.length c].toArray 39), pts b3 (.cells [.slice a0 (P 0).length c0].toArray 75), OS a0 c0 (P 0)] ++ L) [pts b9 (.cells [.slice a s.length c].toArray 39), pts b3 (.cells [.slice a0 (P 0).length c0].toArray 75), OS a0 c0 (P 0), SL.conj L] := Ent.drop4 _
  refine W.ent toC ?_
  refine W.rangeF (lb := [.pointer (some ⟨b9, 0, none⟩)]) rfl Try.func89 rfl rfl ?_
  intro D l r0 hrec
  generalize hJ : (fun i : Nat => SL.hex fun q : Option Addr × Nat => SL.conj [hpure (SomeA q.1 (P i).length), OS q.1 q.2 (P i), pts l (.loop r0), pts b3 (.cells [.slice q.1 (P i).length q.2].toArray 75), SL.conj L]) = J
  have hJi : ∀ i, J i = SL.hex fun q : Option Addr × Nat => SL.conj [hpure (SomeA q.1 (P i).length), OS q.1 q.2 (P i), pts l (.loop r0), pts b3 (.cells [.slice q.1 (P i).length q.2].toArray 75), SL.conj L] := fun i => by rw [← hJ]
  refine TriE.ent (A := [pts b9 (.cells [.slice a s.length c].toArray 39), J 0]) ?_ (TriE.mono (sl_Values1 l b9 a c s J h32 (by omega) ?_ ?_) ?_)
  · refine Ent.take tk ?_
    rw [hJi]
    exact Ent.tohex (a0, c0) (Ent.pure ha0 ent)
  · intro i _
    rw [hJi]
    exact RdS.ent (Ent.unhex fun q => (ent : Ent _ [SL.conj L])) (RdS.ent unconj r)
  · intro i hi
    rw [hJi i]
    refine Yld.hex fun q => ?_
    obtain ⟨a', c'⟩ := q
    refine Yld.pure fun hsa => ?_
    dsimp only at hsa ⊢
    have h1 := hpi i hi
    have h2 := hpl (i + 1) (by omega)
    have lg := getD32 h32 hi
    have hJn := hJi (i + 1)
    generalize s.getD i [] = x at *
    rw [h1] at hJn h2
    generalize P i = out at *
    have hmx : (x.map u8V).length = 32 := by rw [List.length_map, lg]
    refine Yld.ent (M := pts l (.loop r0) :: [OS a' c' out, pts b3 (.cells [.slice a' out.length c'].toArray 75), SL.conj L]) ent ?_
    refine Yld.mono (K := fun v M => v = .bool true ∧ ∃ M', M = pts l (.loop r0) :: M' ∧ Ent (pts l (.loop r0) :: M') [J (i + 1)]) (Yld.of (K := fun M' => Ent (pts l (.loop r0) :: M') [J (i + 1)]) hrec rfl ?_) (fun v M ⟨z, M', e, k⟩ => ⟨z, e ▸ k⟩)
    refine go ?_
    intro b6
    refine WO.sv rfl ?_
    refine SV.store (vs := x.map u8V) (l' := x.map u8V) rfl rfl Cel.agg (by rw [hmx]; rfl) (wo_ne lg) (u8_cell _) (.inl (Nat.le_refl _)) (by decide) (lput_full (by rw [hmx]; rfl)) ?_
    refine go ?_
    refine W.drawA rfl (by kernel_rfl) (by kernel_rfl) ?_
    refine go ?_
    refine DA.q (v := .slice (some ⟨b6, 0, none⟩) 32 32) rfl rfl (SV.cutArr (l := 0) (h := 32) rfl rfl rfl (by decide) (by decide) (fun off' ho => by obtain rfl := ho (.inl (by decide)); exact eqq)) ?_
    refine go ?_
    refine DA.v rfl rfl rfl ?_
    unfold OS
    refine SV.append rfl rfl rfl tk (RdS.src (RdS.all (sz := 1) (n := 32) (by rw [hmx]))) (by rw [hmx]) (u8_cell _) (by simp at h2; omega) rfl ?_
    intro a2 c2 ha2
    refine go ?_
    refine DA.v rfl rfl rfl ?_
    refine SV.storeS (v := .slice a2 (out.length + 32) c2) rfl rfl rfl (.inl (Nat.le_refl _)) (by simp) ?_
    refine go ?_
    show Ent _ _
    rw [hJn]
    refine Ent.tohex (a2, c2) (Ent.pure (by dsimp only; rw [List.length_append, lg]; exact ha2) ?_)
    dsimp only
    unfold OS
    rw [List.length_append, lg, List.map_append]
    exact ent
  · rintro v M ⟨rfl, rfl⟩
    have hJn := hJi s.length
    generalize P s.length = out at *
    refine ⟨[SL.hex fun q : Option Addr × Nat => SL.conj [hpure (SomeA q.1 out.length), OS q.1 q.2 out, pts b3 (.cells [.slice q.1 out.length q.2].toArray 75), SL.conj L]], ?_, ?_⟩
    · rw [hJn]
      exact Ent.unhex fun q => Ent.unpure fun hq => Ent.take tk (Ent.tohex q (Ent.pure hq ent))
    · change W _ _ _ _ _ _ _
      refine W.ent Ent.swap2 (W.openI fun q hq => ?_)
      obtain ⟨a', c'⟩ := q
      dsimp only at hq ⊢
      refine W.ent (M := [OS a' c' out, pts b3 (.cells [.slice a' out.length c'].toArray 75), SL.conj L, pts D (.deferred (some []))]) ent ?_
      refine go ?_
      exact ⟨D, [OS a' c' out, SL.conj L], rfl, ent, [_], ⟨Res.tmp rfl, trivial⟩, OS a' c' out :: L, unC, a', c', rfl, hq, rfl⟩
end Go.SL

/- Layer 14 (update): one update's bytes and id, walked. -/
namespace Go.SL
open Go.Proofs
set_option linter.unusedVariables false
set_option linter.unusedSimpArgs false
set_option linter.unusedSectionVars false
set_option maxRecDepth 10000
set_option maxHeartbeats 4000000
/-- An update: the first of author 0, to the key a. -/
def uC : List Value := [.int .i64 0, .int .u64 1, .slice none 0 0, .int .i64 0, strV [97], strV []]
def uB0 : BL := ([0, 1, 0] : List Nat).flatMap encN
def uB1 : BL := uB0 ++ ([[97], []] : List BL).flatMap encS
def uB : BL := uB1 ++ putI []
attribute [local irreducible] W WO SV OW SW Tri Ent Tk Has Src SrcK DA DB DP RdS Own OwnT MapH
theorem up_Right (L : List HP) : TriE Try.prog 29 #[.agg uC.toArray] (fun v M => v = .bool true ∧ M = L) L := by
  refine Tri.of (N := 57) (args := [.agg uC.toArray]) Try.func29 rfl rfl rfl ?_
  unfold uC
  refine go ?_
  intro b1
  refine go ?_
  refine WO.callE (vs := [.slice none 0 0]) Try.func50 rfl rfl rfl rfl (id_Right none 0 [] _ (fun i hi => by cases hi) (by decide) RdS.nil) ?_
  rintro v M ⟨rfl, rfl⟩
  refine go ?_
  refine WO.sv rfl ?_
  refine SV.eqlST (a := []) (b := []) rfl rfl rfl ?_
  refine go ?_
  exact ⟨rfl, [_], ⟨Res.tmp rfl, trivial⟩, L, ent, rfl, rfl⟩
theorem up_Put (L : List HP) : TriE Try.prog 27 #[.agg uC.toArray] (fun v M => ∃ b' c', v = .tuple [.slice (some ⟨b', 0, none⟩) uB.length c', .int .i64 0].toArray ∧ M = OS (some ⟨b', 0, none⟩) c' uB :: L) L := by
  refine Tri.of (N := 29) (args := [.agg uC.toArray]) Try.func27 rfl rfl rfl ?_
  unfold uC
  refine go ?_
  intro b1
  refine go ?_
  refine WO.callE (vs := [.agg uC.toArray]) Try.func29 rfl rfl rfl rfl (up_Right _) ?_
  rintro v M ⟨rfl, rfl⟩
  refine go ?_
  refine WO.sv rfl ?_
  refine SV.lit rfl rfl rfl parts rfl nl ?_
  intro b2
  refine go ?_
  refine WO.callE (vs := [.slice none 0 0, .slice (some ⟨b2, 0, none⟩) 3 3]) Try.func44 rfl rfl rfl rfl (l1_Put none 0 [] (some ⟨b2, 0, none⟩) 3 [0, 1, 0] _ (by simp) (by simp) (by simp) RdS.nil (RdS.all (sz := 1) (n := 3) rfl)) ?_
  rintro v M ⟨a0, c0, rfl, ha0, rfl⟩
  rw [show ([] : BL) ++ ([0, 1, 0] : List Nat).flatMap encN = uB0 by rfl] at *
  refine go ?_
  refine W.drawG (fun _ => false) #[0, 0, 2, 0, 8, 30, 63, 0, 128, 511, 1023, 2047, 4095] [pts b1 (.cells [.int .i64 0, .int .u64 1, .slice none 0 0, .int .i64 0, strV [97], strV []].toArray 41)] (OS a0 c0 uB0 :: L) rfl (by kernel_rfl) (by kernel_rfl) (by kernel_rfl) ent ?_
  refine go ?_
  refine DB.litH rfl rfl rfl parts rfl nl rfl rfl ?_
  intro b3
  refine go ?_
  refine DB.callE (vs := [.slice a0 uB0.length c0, .slice (some ⟨b3, 0, none⟩) 2 2]) Try.func45 rfl rfl rfl rfl hl hl (l1_PutText a0 c0 uB0 (some ⟨b3, 0, none⟩) 2 [[97], []] _ (by decide) (by decide) (RdS.OS ha0).cons.cons (RdS.all (sz := 1) (n := 2) rfl).cons) ?_
  rintro v M ⟨a1, c1, rfl, ha1, rfl⟩
  rw [show uB0 ++ ([[97], []] : List BL).flatMap encS = uB1 from rfl] at *
  refine ⟨[], OS a1 c1 uB1 :: L, ent, ?_⟩
  refine go ?_
  refine DB.callE (vs := [.slice none 0 0]) Try.func46 rfl rfl rfl rfl hl hl (id_Put none 0 [] _ (fun i hi => by cases hi) (by decide) RdS.nil) ?_
  rintro v M ⟨a2, c2, rfl, ha2, rfl⟩
  refine ⟨[], OS a2 c2 (putI []) :: OS a1 c1 uB1 :: L, ent, ?_⟩
  refine go ?_
  refine DB.v rfl rfl rfl hl hl ?_
  have r2 : RdS 1 a2 (putI []).length ((putI []).map u8V) (OS a2 c2 (putI []) :: L) := RdS.OS ha2
  have hlen : uB.length = uB1.length + (putI []).length := by rfl
  have huB : uB.map u8V = uB1.map u8V ++ (putI []).map u8V := by rfl
  have h9 : uB.length = 9 := by rfl
  generalize uB = ub at *
  generalize uB1 = x1 at *
  generalize putI [] = x2 at *
  unfold OS at r2 ⊢
  refine SV.append rfl rfl rfl (Tk.there (Tk.there Tk.here)) (RdS.src r2.cons) (by simp) (u8_cell _) (by omega) rfl ?_
  intro a4 c4 ha4
  obtain ⟨b4, rfl⟩ := ha4 (by omega)
  rw [← hlen, ← huB]
  refine ⟨[], Own 5 1 (.slice (some ⟨b4, 0, none⟩) ub.length c4) ub.length (ub.map u8V) :: L, ent, ?_⟩
  refine go ?_
  refine ⟨Own 5 1 (.slice (some ⟨b4, 0, none⟩) ub.length c4) ub.length (ub.map u8V) :: L, ent, ?_⟩
  refine go ?_
  exact ⟨rfl, [_, _], ⟨Res.tmp rfl, Res.tmp rfl, trivial⟩, _, Ent.refl _, b4, c4, rfl, rfl⟩
theorem up_Id (L : List HP) : TriE Try.prog 14 #[.agg uC.toArray] (fun v M => v = .agg ((shaF uB).map u8V).toArray ∧ M = L) L := by
  have hfl := shaF_len uB
  have hub : uB.length < 1000000 := by decide
  refine Tri.of (N := 15) (args := [.agg uC.toArray]) Try.func14 rfl rfl rfl ?_
  unfold uC
  refine go ?_
  intro b1
  refine go ?_
  intro b2
  refine go ?_
  refine WO.callE (vs := [.agg uC.toArray]) Try.func27 rfl rfl rfl rfl (up_Put _) ?_
  rintro v M ⟨b', c', rfl, rfl⟩
  generalize uB = ub at *
  generalize hfs : shaF ub = fs at *
  refine go ?_
  refine WO.ownCap (E := 5) (sz := 1) (n := ub.length) (xs := ub.map u8V) (show Tk _ (OS (some ⟨b', 0, none⟩) c' ub) _ from tk) fun hcap => ?_
  refine WO.callE (vs := [.slice (some ⟨b', 0, none⟩) ub.length c']) Try.func28 rfl rfl rfl rfl (sh_Of b' 0 c' ub _ hub hcap (RdS.OS (fun _ => ⟨b', rfl⟩))) ?_
  rintro v M ⟨rfl, rfl⟩
  rw [hfs]
  have hml : (fs.map u8V).length = 32 := by rw [List.length_map, hfl]
  refine go ?_
  refine WO.sv rfl ?_
  refine SV.store (vs := fs.map u8V) (l' := fs.map u8V) rfl rfl Cel.agg (by rw [hml]; rfl) (wo_ne hfl) (u8_cell _) (.inl (Nat.le_refl _)) (by decide) (lput_full (by rw [hml]; rfl)) ?_
  refine go ?_
  exact ⟨rfl, [_], ⟨Res.cell rfl (by rw [hml]; decide) (sub_full hml), trivial⟩, L, ent, rfl, rfl⟩
end Go.SL

/- Layer 14 (update): one update's id, reckoned. -/
namespace Go.SL
set_option maxRecDepth 100000
set_option maxHeartbeats 4000000
def uI : BL := [188, 49, 236, 41, 138, 68, 5, 76, 103, 239, 79, 170, 47, 232, 190, 175, 124, 132, 177, 32, 46, 106, 192, 234, 239, 56, 173, 208, 242, 251, 171, 68]
theorem uI_eq : shaF uB = uI := by kernel_rfl
def oI : BL := 1 :: List.replicate 31 0
theorem uI_len : uI.length = 32 := rfl
theorem oI_len : oI.length = 32 := rfl
theorem uI_ne : uI ≠ oI := by decide
theorem rt_u : rightF [uI] = true := by decide
theorem rt_o : rightF [oI] = true := by decide
theorem of_u : ofF [uI] = [uI] := by decide
theorem of_uo : ofF [uI, oI] = [oI, uI] := by kernel_rfl
theorem of_uu : ofF [uI, uI] = [uI] := by kernel_rfl
theorem rt_ou : rightF [oI, uI] = true := by kernel_rfl
theorem has_uu : hasF [uI] uI = true := by kernel_rfl
theorem has_uo : hasF [uI] oI = false := by kernel_rfl
theorem has_ou : hasF [oI] uI = false := by kernel_rfl
theorem has_oo : hasF [oI] oI = true := by kernel_rfl
end Go.SL

/- Layer 33 (audit): what is wrong with an update of a site, walked. -/
namespace Go.SL
open Go.Proofs
set_option linter.unusedVariables false
set_option linter.unusedSimpArgs false
set_option linter.unusedSectionVars false
set_option maxRecDepth 10000
set_option maxHeartbeats 4000000
def faF (x : BL) : List Value := if uI = x then [] else [.int .i64 1]
/-- A site with one id and one update. -/
def siL (ib ic ub uc : Nat) : List Value := [.bool true, .slice (some ⟨ib, 0, none⟩) 1 ic, .slice (some ⟨ub, 0, none⟩) 1 uc, .slice none 0 0]
theorem rt_one (x : BL) : rightF [x] = true := rfl
theorem All32.one {x : BL} (h : x.length = 32) : All32 [x] := fun i hi => by rw [List.mem_singleton.1 hi]; exact h
theorem entC2 {A B : HP} {L : List HP} : Ent (A :: B :: L) [A, B, SL.conj L] := fun h x => Has.cons_of (fun h x => Has.cons_of ent_conj x) x
theorem unC2 {A B : HP} {L : List HP} : Ent [A, B, SL.conj L] (A :: B :: L) := fun h x => Has.cons_of (fun h x => Has.cons_of unconj x) x
attribute [local irreducible] W WO SV OW SW Tri Ent Tk Has Src SrcK DA DB DP RdS Own OwnT MapH
def OW1 (a : Option Addr) (c : Nat) (x : BL) : HP := Own 3 1 (.slice a (faF x).length c) (faF x).length (faF x)
theorem au_whats (ib ic ub uc : Nat) (x : BL) (L : List HP) (hx : x.length = 32) (r1 : RdS 32 (some ⟨ib, 0, none⟩) 1 (rowI [x]) L) (r2 : RdS 6 (some ⟨ub, 0, none⟩) 1 uC L) :
    TriE Try.prog 15 #[.agg (siL ib ic ub uc).toArray, .int .i64 0] (fun v M => ∃ a c, v = .slice a (faF x).length c ∧ SomeA a (faF x).length ∧ M = OW1 a c x :: L) L := by
  refine Tri.of (N := 41) (args := [.agg (siL ib ic ub uc).toArray, .int .i64 0]) Try.func15 rfl rfl rfl ?_
  unfold siL
  refine go ?_
  intro b2
  refine go ?_
  refine WO.sv rfl ?_
  refine SV.loadRN (k := 6) (vs := uC) 0 rfl r2.cons rfl (by decide) (by decide) rfl ?_
  refine go ?_
  intro b6
  refine WO.sv rfl ?_
  refine SV.store (vs := uC) (l' := uC) rfl rfl Cel.agg rfl rfl rfl (.inl (Nat.le_refl _)) (by decide) (lput_full (by rfl)) ?_
  refine go ?_
  refine WO.callE (vs := [.agg uC.toArray]) Try.func29 rfl rfl rfl rfl (up_Right _) ?_
  rintro v M ⟨rfl, rfl⟩
  refine go ?_
  refine W.drawB #[0, 1, 0, 4, 0, 28, 60, 127, 255] [pts b6 (.cells uC.toArray 41), pts b2 (.cells [.bool true, .slice (some ⟨ib, 0, none⟩) 1 ic, .slice (some ⟨ub, 0, none⟩) 1 uc, .slice none 0 0].toArray 31), SL.conj L] [] rfl (by kernel_rfl) (by kernel_rfl) (by kernel_rfl) entC2 ?_
  refine DB.q (v := .agg uC.toArray) rfl rfl hl (SV.loadN (vs := uC) rfl (sub_full rfl) (by decide) eqq) ?_
  refine go ?_
  refine DB.callE (vs := [.agg uC.toArray]) Try.func14 rfl rfl rfl rfl hl hl (up_Id _) ?_
  rintro v M ⟨rfl, rfl⟩
  rw [uI_eq]
  refine ⟨[], [], ent, ?_⟩
  refine go ?_
  refine DB.q (v := .agg (x.map u8V).toArray) rfl rfl hl (SV.loadRN (k := 32) (vs := x.map u8V) 0 rfl (RdS.ent unconj r1).cons.cons (by omega) (by decide) (by rw [rowI_one, List.length_map, hx]; decide) (by rw [rowI_one]; exact sub_full (by rw [List.length_map, hx])) eqq) ?_
  refine DB.q (v := .bool (!decide (uI = x))) rfl rfl hl (SV.neqBytes rfl rfl Try.underlying58 Try.underlying5 rfl (by kernel_rfl) (by kernel_rfl) uI_len hx eqq) ?_
  refine go ?_
  refine ⟨pts b6 (.cells uC.toArray 41) :: pts b2 (.cells [.bool true, .slice (some ⟨ib, 0, none⟩) 1 ic, .slice (some ⟨ub, 0, none⟩) 1 uc, .slice none 0 0].toArray 31) :: L, Ent.trans ent (unC2 (A := pts b6 (.cells uC.toArray 41)) (B := pts b2 (.cells [.bool true, .slice (some ⟨ib, 0, none⟩) 1 ic, .slice (some ⟨ub, 0, none⟩) 1 uc, .slice none 0 0].toArray 31))), ?_⟩
  have wi : ∀ X Y : HP, TriE Try.prog 16 #[.slice none 0 0, .slice (some ⟨ib, 0, none⟩) 1 ic] (fun v M => v = .bool true ∧ M = X :: Y :: L) (X :: Y :: L) := fun X Y =>
    TriE.mono (id_Within none 0 [] (some ⟨ib, 0, none⟩) ic [x] _ (fun i hi => by cases hi) (All32.one hx) (by decide) (by simp) rfl (rt_one x) RdS.nil r1.cons.cons) fun v M ⟨h1, h2⟩ => ⟨h1, h2⟩
  by_cases hux : uI = x
  · rw [decide_eq_true hux]
    have hw : faF x = [] := by unfold faF; rw [if_pos hux]
    refine go ?_
    refine WO.callE (vs := [.slice none 0 0, .slice (some ⟨ib, 0, none⟩) 1 ic]) Try.func16 rfl rfl rfl rfl (wi _ _) ?_
    rintro v M ⟨rfl, rfl⟩
    refine go ?_
    refine ⟨rfl, [_], ⟨Res.tmp rfl, trivial⟩, OW1 none 0 x :: L, ?_, none, 0, ?_, ?_, rfl⟩
    · unfold OW1; rw [hw]; exact Ent.ownNil ent
    · rw [hw]; rfl
    · rw [hw]; exact fun z => absurd rfl z
  · rw [decide_eq_false hux]
    have hw : faF x = [.int .i64 1] := by unfold faF; rw [if_neg hux]
    refine go ?_
    refine WO.sv rfl ?_
    refine SV.lit rfl rfl rfl parts rfl nl ?_
    intro b7
    refine WO.ent (M := Own 3 1 (.slice none 0 0) 0 [] :: _) (Ent.ownNil (Ent.refl _)) ?_
    refine WO.sv rfl ?_
    refine SV.append rfl rfl rfl Tk.here (RdS.src (RdS.all (sz := 1) (n := 1) rfl)) rfl rfl (by decide) rfl ?_
    intro a7 c7 ha7
    refine go ?_
    refine WO.ent (M := Own 3 1 (.slice a7 (0 + 1) c7) (0 + 1) ([] ++ [.int .i64 1]) :: pts b6 (.cells uC.toArray 41) :: pts b2 (.cells [.bool true, .slice (some ⟨ib, 0, none⟩) 1 ic, .slice (some ⟨ub, 0, none⟩) 1 uc, .slice none 0 0].toArray 31) :: L) ent ?_
    refine WO.callE (vs := [.slice none 0 0, .slice (some ⟨ib, 0, none⟩) 1 ic]) Try.func16 rfl rfl rfl rfl (TriE.mono (id_Within none 0 [] (some ⟨ib, 0, none⟩) ic [x] _ (fun i hi => by cases hi) (All32.one hx) (by decide) (by simp) rfl (rt_one x) RdS.nil r1.cons.cons.cons) fun v M h => h) ?_
    rintro v M ⟨rfl, rfl⟩
    refine go ?_
    refine ⟨rfl, [_], ⟨Res.tmp rfl, trivial⟩, OW1 a7 c7 x :: L, ?_, a7, c7, ?_, ?_, rfl⟩
    · unfold OW1; rw [hw]; exact ent
    · rw [hw]; rfl
    · rw [hw]; exact ha7
end Go.SL

/- Layer 33 (audit): what is wrong with sites, walked. -/
namespace Go.SL
open Go.Proofs
set_option linter.unusedVariables false
set_option linter.unusedSimpArgs false
set_option linter.unusedSectionVars false
set_option maxRecDepth 10000
set_option maxHeartbeats 4000000
theorem range_at {m : Nat} (g : Nat → List Value) (hg : ∀ i, (g i).length = m) : ∀ n i, i < n → lsub ((List.range n).flatMap g) (i * m) m = g i
  | 0, i, h => by omega
  | n + 1, i, h => by
    have hl : ((List.range n).flatMap g).length = n * m := by
      clear h
      induction n with
      | zero => simp
      | succ n ih => rw [List.range_succ, List.flatMap_append, List.length_append, ih]; simp [hg]; rw [Nat.add_mul]; omega
    rw [List.range_succ, List.flatMap_append, lsub_eq]
    by_cases e : i < n
    · have := range_at g hg n i e
      rw [lsub_eq] at this
      have h1 : i * m + m ≤ n * m := by rw [← Nat.succ_mul]; exact Nat.mul_le_mul_right _ e
      rw [List.drop_append_of_le_length (by omega), List.take_append_of_le_length (by rw [List.length_drop]; omega)]
      exact this
    · obtain rfl : i = n := by omega
      rw [← hl, List.drop_left]
      simp [List.take_of_length_le (Nat.le_of_eq (hg i))]
theorem range_len {m : Nat} (g : Nat → List Value) (hg : ∀ i, (g i).length = m) (n : Nat) : ((List.range n).flatMap g).length = n * m := by
  induction n with
  | zero => simp
  | succ n ih => rw [List.range_succ, List.flatMap_append, List.length_append, ih]; simp [hg]; rw [Nat.add_mul]; omega
def rowS (ib ic ub uc : Nat → Nat) (n : Nat) : List Value := (List.range n).flatMap fun i => siL (ib i) (ic i) (ub i) (uc i)
def flN (x : BL) : Nat := if uI = x then 0 else 1
def flt (x : BL) (i : Nat) : List Value := if uI = x then [] else [.int .i64 1, .int .i64 (i : Int), .int .i64 0]
def foN (xs : Nat → BL) : Nat → Nat
  | 0 => 0
  | i + 1 => foN xs i + flN (xs i)
def fo (xs : Nat → BL) : Nat → List Value
  | 0 => []
  | i + 1 => fo xs i ++ flt (xs i) i
theorem foN_le (xs : Nat → BL) : ∀ i, foN xs i ≤ i
  | 0 => Nat.le_refl _
  | i + 1 => by
    have := foN_le xs i
    unfold foN flN
    split <;> omega
theorem fo_len (xs : Nat → BL) : ∀ i, (fo xs i).length = foN xs i * 3
  | 0 => rfl
  | i + 1 => by
    have := fo_len xs i
    unfold fo foN flt flN
    rw [List.length_append, this]
    split <;> simp <;> omega
attribute [local irreducible] W WO SV OW SW Tri Ent Tk Has Src SrcK DA DB DP RdS Own OwnT MapH
def OF (a : Option Addr) (c : Nat) (n : Nat) (l : List Value) : HP := Own 53 3 (.slice a n c) n l
theorem au_Check (bl cl n : Nat) (ib ic ub uc : Nat → Nat) (xs : Nat → BL) (L : List HP) (hn : n ≤ 100) (hx : ∀ i, i < n → (xs i).length = 32) (r0 : RdS 4 (some ⟨bl, 0, none⟩) n (rowS ib ic ub uc n) L)
    (r1 : ∀ i, i < n → RdS 32 (some ⟨ib i, 0, none⟩) 1 (rowI [xs i]) L) (r2 : ∀ i, i < n → RdS 6 (some ⟨ub i, 0, none⟩) 1 uC L) :
    TriE Try.prog 9 #[.slice (some ⟨bl, 0, none⟩) n cl] (fun v M => ∃ a c, v = .slice a (foN xs n) c ∧ SomeA a (foN xs n) ∧ M = OF a c (foN xs n) (fo xs n) :: L) L := by
  have hrl := range_len (fun i => siL (ib i) (ic i) (ub i) (uc i)) (m := 4) (fun _ => rfl) n
  have hra := range_at (fun i => siL (ib i) (ic i) (ub i) (uc i)) (m := 4) (fun _ => rfl) n
  change (rowS ib ic ub uc n).length = n * 4 at hrl
  change ∀ i, i < n → lsub (rowS ib ic ub uc n) (i * 4) 4 = siL (ib i) (ic i) (ub i) (uc i) at hra
  refine Tri.of (N := 84) (args := [.slice (some ⟨bl, 0, none⟩) n cl]) Try.func9 rfl rfl rfl ?_
  refine go ?_
  refine W.loopS 9671406556917033397646200 rfl (fun q : Nat × Option Addr × Nat => [(12, .int .i64 (q.1 : Int)), (3, .slice q.2.1 (foN xs q.1) q.2.2)]) (fun q => OF q.2.1 q.2.2 (foN xs q.1) (fo xs q.1) :: L)
    (fun q => q.1 ≤ n ∧ SomeA q.2.1 (foN xs q.1)) (fun q => n - q.1) (0, none, 0) ⟨rfl, rfl, trivial⟩ ⟨Nat.zero_le _, fun z => absurd rfl z⟩ (Ent.app (by dsimp only; unfold OF; exact Ent.ownNil ent)) ?_
  rintro ⟨i, a, c⟩ bg ⟨hi, ha⟩
  dsimp only at hi ha ⊢
  by_cases h9 : i < n
  rotate_left
  · obtain rfl : i = n := by omega
    refine go ?_
    exact ⟨rfl, [_], ⟨Res.tmp rfl, trivial⟩, _, ent, a, c, rfl, ha, rfl⟩
  have hrai := hra i h9
  have hr1 := r1 i h9
  have hr2 := r2 i h9
  have hxi := hx i h9
  have hfl := fo_len xs i
  have hfn := foN_le xs i
  have hnx : fo xs (i + 1) = fo xs i ++ flt (xs i) i := rfl
  have hnn : foN xs (i + 1) = foN xs i + flN (xs i) := rfl
  generalize fo xs i = out at *
  generalize foN xs i = m at *
  generalize xs i = x at *
  generalize ib i = jb at *
  generalize ic i = jc at *
  generalize ub i = vb at *
  generalize uc i = vc at *
  refine go ?_
  refine WO.sv rfl ?_
  refine SV.loadRN (k := 4) (vs := siL jb jc vb vc) (i * 4) rfl r0.cons (by omega) (by decide) (by rw [hrl]; omega) hrai ?_
  refine go ?_
  intro b5
  unfold siL
  refine go ?_
  refine W.loopS 140737354137928 rfl (fun q : Nat × Option Addr × Nat => [(27, .int .i64 (q.1 : Int)), (3, .slice q.2.1 (if q.1 = 0 then m else m + flN x) q.2.2)])
    (fun q => OF q.2.1 q.2.2 (if q.1 = 0 then m else m + flN x) (if q.1 = 0 then out else out ++ flt x i) :: pts b5 (.cells (siL jb jc vb vc).toArray 31) :: L)
    (fun q => q.1 ≤ 1 ∧ SomeA q.2.1 (if q.1 = 0 then m else m + flN x)) (fun q => 1 - q.1) (0, a, c) ⟨rfl, rfl, trivial⟩ ⟨by dsimp only; omega, ha⟩ (Ent.app (by unfold siL; exact ent)) ?_
  clear ha
  rintro ⟨k, a, c⟩ bg2 ⟨hk, ha⟩
  dsimp only at hk ha ⊢
  by_cases hk0 : k = 0
  · subst hk0
    rw [if_pos rfl] at ha ⊢
    rw [if_pos rfl]
    unfold siL
    refine go ?_
    refine WO.callE (vs := [.agg (siL jb jc vb vc).toArray, .int .i64 0]) Try.func15 rfl rfl rfl rfl (au_whats jb jc vb vc x _ hxi hr1.cons.cons hr2.cons.cons) ?_
    rintro v M ⟨aw, cw, rfl, haw, rfl⟩
    by_cases hux : uI = x
    · have e1 : faF x = [] := by unfold faF; rw [if_pos hux]
      have e2 : flt x i = [] := by unfold flt; rw [if_pos hux]
      have e3 : flN x = 0 := by unfold flN; rw [if_pos hux]
      rw [e1]
      refine go ?_
      refine W.loopS 70351564308744 rfl (fun u : Unit => [(34, .int .i64 0), (3, .slice a m c)]) (fun _ => OF a c m out :: pts b5 (.cells [.bool true, .slice (some ⟨jb, 0, none⟩) 1 jc, .slice (some ⟨vb, 0, none⟩) 1 vc, .slice none 0 0].toArray 31) :: L) (fun _ => True) (fun _ => 0) () ⟨rfl, rfl, trivial⟩ trivial (Ent.app ent) ?_
      intro u bg3 _
      refine go ?_
      refine ⟨(1, a, c), ⟨rfl, ?_, trivial⟩, rfl, ⟨Nat.le_refl _, ?_⟩, by dsimp only; omega, Ent.app ?_⟩
      · dsimp only; rw [if_neg (by decide), e3]; rfl
      · dsimp only; rw [if_neg (by decide), e3]; exact ha
      · dsimp only; rw [if_neg (by decide), if_neg (by decide), e3, e2, List.append_nil]; exact ent
    · have e1 : faF x = [.int .i64 1] := by unfold faF; rw [if_neg hux]
      have e2 : flt x i = [.int .i64 1, .int .i64 (i : Int), .int .i64 0] := by unfold flt; rw [if_neg hux]
      have e3 : flN x = 1 := by unfold flN; rw [if_neg hux]
      unfold OW1
      rw [e1] at haw ⊢
      obtain ⟨bw, rfl⟩ := haw (by decide)
      refine go ?_
      refine W.loopS 70351564308744 rfl (fun q : Nat × Option Addr × Nat => [(34, .int .i64 (q.1 : Int)), (3, .slice q.2.1 (m + q.1) q.2.2)])
        (fun q => OF q.2.1 q.2.2 (m + q.1) (if q.1 = 0 then out else out ++ flt x i) :: Own 3 1 (.slice (some ⟨bw, 0, none⟩) 1 cw) 1 [.int .i64 1] :: pts b5 (.cells [.bool true, .slice (some ⟨jb, 0, none⟩) 1 jc, .slice (some ⟨vb, 0, none⟩) 1 vc, .slice none 0 0].toArray 31) :: L)
        (fun q => q.1 ≤ 1 ∧ SomeA q.2.1 (m + q.1)) (fun q => 1 - q.1) (0, a, c) ⟨rfl, rfl, trivial⟩ ⟨by dsimp only; omega, ha⟩ (Ent.app ent) ?_
      clear ha
      rintro ⟨j, a, c⟩ bg3 ⟨hj, ha⟩
      dsimp only at hj ha ⊢
      by_cases hj0 : j = 0
      · subst hj0
        rw [if_pos rfl]
        refine go ?_
        refine WO.sv rfl ?_
        refine SV.loadR (v := .int .i64 1) 0 rfl (RdS.cons (RdS.ownS Tk.here (fun _ => ⟨bw, rfl⟩) rfl)) rfl rfl ?_
        refine go ?_
        refine WO.sv rfl ?_
        refine SV.lit (sz := 3) rfl rfl rfl (Parts.cons (v := .agg [.int .i64 1, .int .i64 (i : Int), .int .i64 0].toArray) rfl Cel.agg Parts.nil) (laid_one (n := 3) rfl rfl) rfl ?_
        intro b8
        refine WO.sv rfl ?_
        unfold OF
        refine SV.append rfl rfl rfl tk (RdS.src (RdS.all (sz := 3) (n := 1) rfl)) rfl rfl (by omega) rfl ?_
        intro a9 c9 ha9
        refine go ?_
        refine ⟨(1, a9, c9), ⟨rfl, rfl, trivial⟩, rfl, ⟨Nat.le_refl _, ha9⟩, by dsimp only; omega, Ent.app ?_⟩
        dsimp only
        rw [if_neg (by decide), e2]
        exact ent
      · obtain rfl : j = 1 := by omega
        rw [if_neg (by decide)]
        refine go ?_
        refine ⟨(1, a, c), ⟨rfl, ?_, trivial⟩, rfl, ⟨Nat.le_refl _, ?_⟩, by dsimp only; omega, Ent.app ?_⟩
        · dsimp only; rw [if_neg (by decide), e3]; rfl
        · dsimp only; rw [if_neg (by decide), e3]; exact ha
        · dsimp only; rw [if_neg (by decide), if_neg (by decide), e3]; exact ent
  · obtain rfl : k = 1 := by omega
    rw [if_neg (by decide)] at ha ⊢
    rw [if_neg (by decide)]
    unfold siL
    refine go ?_
    refine W.loopS 4835703269451317444084232 rfl (fun u : Unit => [(53, .int .i64 0), (3, .slice a (m + flN x) c)]) (fun _ => OF a c (m + flN x) (out ++ flt x i) :: L) (fun _ => True) (fun _ => 0) () ⟨rfl, rfl, trivial⟩ trivial (Ent.app ent) ?_
    intro u bg3 _
    refine go ?_
    refine ⟨(i + 1, a, c), ⟨rfl, ?_, trivial⟩, rfl, ⟨h9, ?_⟩, by dsimp only; omega, Ent.app ?_⟩
    · dsimp only; rw [hnn]; rfl
    · dsimp only; rw [hnn]; exact ha
    · dsimp only; rw [hnn, hnx]; exact ent
end Go.SL

/- Layer 33 (audit): how many updates each site lacks, walked. -/
namespace Go.SL
open Go.Proofs
set_option linter.unusedVariables false
set_option linter.unusedSimpArgs false
set_option linter.unusedSectionVars false
set_option maxRecDepth 10000
set_option maxHeartbeats 4000000
def alF (xs : Nat → BL) : Nat → List BL
  | 0 => []
  | i + 1 => ofF (alF xs i ++ [xs i])
theorem ofF_le (s : List BL) : (ofF s).length ≤ s.length := by
  have := compN_le (sortF s) (sortF s).length
  rw [sortF_len s] at this
  unfold ofF compF
  rw [sortF_len]
  exact this
theorem alF_le (xs : Nat → BL) : ∀ i, (alF xs i).length ≤ i
  | 0 => Nat.le_refl _
  | i + 1 => by
    have := alF_le xs i
    have := ofF_le (alF xs i ++ [xs i])
    unfold alF
    simp at this; omega
theorem alF_32 (xs : Nat → BL) (n : Nat) (h : ∀ i, i < n → (xs i).length = 32) : ∀ i, i ≤ n → All32 (alF xs i)
  | 0, _ => fun i hi => by cases hi
  | i + 1, hi => by
    refine ofF_32 fun y hy => ?_
    rcases List.mem_append.1 hy with h1 | h1
    · exact alF_32 xs n h i (by omega) y h1
    · rw [List.mem_singleton.1 h1]; exact h i hi
/-- How many of all each lacks. -/
def lkF (xs : Nat → BL) (n i : Nat) : Nat := ((alF xs n).filter fun x => !hasF [xs i] x).length
def lkV (xs : Nat → BL) (n i : Nat) : List Value := (List.range i).map (fun j => Value.int .i64 (lkF xs n j : Nat)) ++ List.replicate (n - i) (.int .i64 0)
theorem lkV_len (xs : Nat → BL) {n i : Nat} (h : i ≤ n) : (lkV xs n i).length = n := by simp [lkV]; omega
theorem lkV_set (xs : Nat → BL) {n i : Nat} (h : i < n) : (lkV xs n i).set i (.int .i64 (lkF xs n i : Nat)) = lkV xs n (i + 1) := by
  unfold lkV
  rw [List.set_append_right _ _ (by simp)]
  simp only [List.length_map, List.length_range, Nat.sub_self]
  rw [show n - i = (n - (i + 1)) + 1 by omega, List.replicate_succ, List.set_cons_zero, List.range_succ, List.map_append, List.append_assoc]
  rfl
attribute [local irreducible] W WO SV OW SW Tri Ent Tk Has Src SrcK DA DB DP RdS Own OwnT MapH
theorem au_Behind (bl cl n : Nat) (ib ic ub uc : Nat → Nat) (xs : Nat → BL) (L : List HP) (hn : n ≤ 11) (hx : ∀ i, i < n → (xs i).length = 32) (hr : rightF (alF xs n) = true) (r0 : RdS 4 (some ⟨bl, 0, none⟩) n (rowS ib ic ub uc n) L)
    (r1 : ∀ i, i < n → RdS 32 (some ⟨ib i, 0, none⟩) 1 (rowI [xs i]) L) :
    TriE Try.prog 11 #[.slice (some ⟨bl, 0, none⟩) n cl] (fun v M => ∃ b c, v = .slice (some ⟨b, 0, none⟩) n c ∧ M = Own 3 1 (.slice (some ⟨b, 0, none⟩) n c) n (lkV xs n n) :: L) L := by
  have hrl := range_len (fun i => siL (ib i) (ic i) (ub i) (uc i)) (m := 4) (fun _ => rfl) n
  have hra := range_at (fun i => siL (ib i) (ic i) (ub i) (uc i)) (m := 4) (fun _ => rfl) n
  change (rowS ib ic ub uc n).length = n * 4 at hrl
  change ∀ i, i < n → lsub (rowS ib ic ub uc n) (i * 4) 4 = siL (ib i) (ic i) (ub i) (uc i) at hra
  refine Tri.of (N := 44) (args := [.slice (some ⟨bl, 0, none⟩) n cl]) Try.func11 rfl rfl rfl ?_
  refine go ?_
  refine W.loopS 4192296 rfl (fun q : Nat × Option Addr × Nat => [(11, .int .i64 (q.1 : Int)), (3, .slice q.2.1 (alF xs q.1).length q.2.2)]) (fun q => OI q.2.1 q.2.2 (alF xs q.1) :: L)
    (fun q => q.1 ≤ n ∧ SomeA q.2.1 (alF xs q.1).length) (fun q => n - q.1) (0, none, 0) ⟨rfl, rfl, trivial⟩ ⟨Nat.zero_le _, fun z => absurd rfl z⟩ (Ent.app (by dsimp only; unfold OI; exact Ent.ownNil ent)) ?_
  rintro ⟨i, a, c⟩ bg ⟨hi, ha⟩
  dsimp only at hi ha ⊢
  by_cases h9 : i < n
  · have hrai := hra i h9
    have hr1 := r1 i h9
    have hxi := hx i h9
    have hal := alF_le xs i
    have ha32 := alF_32 xs n hx i hi
    have hnx : alF xs (i + 1) = ofF (alF xs i ++ [xs i]) := rfl
    generalize alF xs i = al at *
    generalize xs i = x at *
    generalize ib i = jb at *
    generalize ic i = jc at *
    generalize ub i = vb at *
    generalize uc i = vc at *
    refine go ?_
    refine WO.sv rfl ?_
    refine SV.loadRN (k := 4) (vs := siL jb jc vb vc) (i * 4) rfl r0.cons (by omega) (by decide) (by rw [hrl]; omega) hrai ?_
    refine go ?_
    intro b5
    unfold siL
    refine go ?_
    refine WO.ent (M := OI a c al :: pts b5 (.cells [.bool true, .slice (some ⟨jb, 0, none⟩) 1 jc, .slice (some ⟨vb, 0, none⟩) 1 vc, .slice none 0 0].toArray 31) :: L) ent ?_
    refine WO.callE (vs := [.slice a al.length c, .slice (some ⟨jb, 0, none⟩) 1 jc]) Try.func21 rfl rfl rfl rfl (id_Or a c al (some ⟨jb, 0, none⟩) jc [x] _ ha32 (All32.one hxi) (by simp) (by simp; omega) (RdS.OI ha32 ha) hr1.cons.cons) ?_
    rintro v M ⟨b', c', rfl, rfl⟩
    rw [← hnx]
    refine go ?_
    exact ⟨(i + 1, some ⟨b', 0, none⟩, c'), ⟨rfl, rfl, trivial⟩, rfl, ⟨h9, fun _ => ⟨b', rfl⟩⟩, by dsimp only; omega, Ent.app ent⟩
  obtain rfl : i = n := by omega
  have ha32 := alF_32 xs i hx i hi
  have hal := alF_le xs i
  refine go ?_
  refine WO.sv rfl ?_
  refine SV.makeSlice rfl (m := i) rfl (by omega) (by omega) ?_
  intro b6
  refine go ?_
  generalize hall : alF xs i = all at *
  generalize hnn : i = n at h9 hn hi hal hrl r0 ⊢
  subst hnn
  refine W.ent (M := Own 3 1 (.slice (some ⟨b6, 0, none⟩) i i) i (List.replicate i (.int .i64 0)) :: OI a c all :: L) ((ent_own (sz := 1) (n := i) (by simp)).trans ent) ?_
  refine W.loopS 8795958804864 rfl (fun k : Nat => [(27, .int .i64 (k : Int))]) (fun k => Own 3 1 (.slice (some ⟨b6, 0, none⟩) i i) i (lkV xs i k) :: OI a c all :: L) (fun k => k ≤ i) (fun k => i - k) 0 ⟨rfl, trivial⟩ (Nat.zero_le _) (Ent.app (by first | (dsimp only; done) | rw [show lkV xs i 0 = List.replicate i (.int .i64 0) from rfl]; exact ent)) ?_
  intro k bg2 hk
  try dsimp only at hk ⊢
  have hlk := lkV_len xs hk
  by_cases h8 : k < i
  · have hrai := hra k h8
    have hr1 := r1 k h8
    have hxi := hx k h8
    have hset := lkV_set xs h8
    have hlf : lkF xs i k = (all.filter fun x => !hasF [xs k] x).length := by unfold lkF; rw [hall]
    rw [hlf] at hset
    generalize xs k = x at *
    generalize ib k = jb at *
    generalize ic k = jc at *
    generalize ub k = vb at *
    generalize uc k = vc at *
    refine go ?_
    refine WO.sv rfl ?_
    refine SV.loadRN (k := 4) (vs := siL jb jc vb vc) (k * 4) rfl r0.cons.cons (by omega) (by decide) (by rw [hrl]; omega) hrai ?_
    refine go ?_
    intro b5
    unfold siL
    refine go ?_
    refine WO.callE (vs := [.slice a all.length c, .slice (some ⟨jb, 0, none⟩) 1 jc]) Try.func22 rfl rfl rfl rfl (id_LessOf a c all (some ⟨jb, 0, none⟩) jc [x] _ ha32 (All32.one hxi) (by omega) (by simp) hr (rt_one x) (RdS.cons (RdS.cons (RdS.OI ha32 ha))) hr1.cons.cons.cons) ?_
    rintro v M ⟨a', c', rfl, rfl⟩
    generalize (all.filter fun y => !hasF [x] y).length = lk at *
    refine go ?_
    refine WO.sv rfl ?_
    refine SV.storeO (v := .int .i64 (lk : Nat)) k rfl tk (by omega) rfl rfl (by rw [hlk]; omega) hset ?_
    refine go ?_
    exact ⟨k + 1, ⟨rfl, trivial⟩, rfl, h8, by omega, Ent.app ent⟩
  obtain rfl : k = i := by omega
  refine go ?_
  exact ⟨rfl, [_], ⟨Res.tmp rfl, trivial⟩, _, ent, b6, k, rfl, rfl⟩
end Go.SL

/- Layer 33 (audit): whether all have the same updates, and what a fault is called, walked. -/
namespace Go.SL
open Go.Proofs
set_option linter.unusedVariables false
set_option linter.unusedSimpArgs false
set_option linter.unusedSectionVars false
set_option maxRecDepth 10000
set_option maxHeartbeats 4000000
def nv (w : List Nat) : List Value := w.map fun k : Nat => Value.int .i64 (k : Int)
theorem nv_get (w : List Nat) (k : Nat) (h : k < w.length) : (nv w)[k]? = some (.int .i64 (w.getD k 0)) := by
  simp [nv, List.getD_eq_getElem?_getD, h]
/-- How many updates each lacks. -/
def lkN (xs : Nat → BL) (n : Nat) : List Nat := (List.range n).map (lkF xs n)
theorem lkV_nv (xs : Nat → BL) (n : Nat) : lkV xs n n = nv (lkN xs n) := by
  unfold lkV nv lkN
  rw [Nat.sub_self, List.replicate_zero, List.append_nil, List.map_map]; rfl
theorem lkN_len (xs : Nat → BL) (n : Nat) : (lkN xs n).length = n := by simp [lkN]
attribute [local irreducible] W WO SV OW SW Tri Ent Tk Has Src SrcK DA DB DP RdS Own OwnT MapH
theorem au_Alike1 (x : Int) (L : List HP) : TriE Try.prog 26 #[.int .i64 x] (fun v M => v = .bool (decide (0 < x)) ∧ M = L) L := by
  refine Tri.of (N := 5) (args := [.int .i64 x]) Try.func26 rfl rfl rfl ?_
  refine goD ?_
  exact ⟨rfl, [_], ⟨Res.tmp rfl, trivial⟩, L, ent, rfl, rfl⟩
/-- The first one above 0. -/
def firstQ (p : List Nat) : Int → Prop := fun r => (r = -1 ∧ ∀ k, k < p.length → p.getD k 0 = 0) ∨ (0 ≤ r ∧ r < p.length ∧ 0 < p.getD r.toNat 0)
theorem a_IndexFunc (xa : Option Addr) (c : Nat) (p : List Nat) (L : List HP) (hp : p.length ≤ 1000000) (r : RdS 1 xa p.length (nv p) L) :
    TriE Try.prog 43 #[.slice xa p.length c, .func (.func 26) #[] #[]] (fun v M => ∃ z : Int, v = .int .i64 z ∧ firstQ p z ∧ M = L) L := by
  refine Tri.of (N := 19) (args := [.slice xa p.length c, .func (.func 26) #[] #[]]) Try.func43 rfl rfl rfl ?_
  refine go ?_
  refine W.loopS 524080 rfl (fun i : Nat => [(8, .int .i64 (i : Int))]) (fun _ => L) (fun i => i ≤ p.length ∧ ∀ k, k < i → p.getD k 0 = 0) (fun i => p.length - i) 0 ⟨rfl, trivial⟩ ⟨Nat.zero_le _, fun k hk => by omega⟩ (Ent.app ent) ?_
  rintro i bg ⟨hi, hz⟩
  by_cases h : i < p.length
  rotate_left
  · obtain rfl : i = p.length := by omega
    refine go ?_
    exact ⟨rfl, [_], ⟨Res.tmp rfl, trivial⟩, L, ent, -1, rfl, .inl ⟨rfl, hz⟩, rfl⟩
  have hx := nv_get p i h
  obtain ⟨ab, ao, rfl⟩ := r.at (by omega)
  generalize hpe : p.getD i 0 = x at *
  refine go ?_
  refine WO.sv rfl ?_
  refine SV.loadR (v := .int .i64 (x : Int)) i rfl rds (by omega) hx ?_
  refine WO.callV (g := 26) (vs := [.int .i64 (x : Int)]) rfl Try.func26 rfl rfl rfl rfl (au_Alike1 x _) ?_
  rintro v M ⟨rfl, rfl⟩
  by_cases hx0 : (0 : Int) < x
  · rw [decide_eq_true hx0]
    refine go ?_
    exact ⟨rfl, [_], ⟨Res.tmp rfl, trivial⟩, _, ent, i, rfl, .inr ⟨by omega, by omega, by rw [Int.toNat_natCast, hpe]; omega⟩, rfl⟩
  · rw [decide_eq_false hx0]
    refine go ?_
    exact ⟨i + 1, ⟨rfl, trivial⟩, rfl, ⟨by omega, fun k hk => by
      by_cases e : k = i
      · subst e; omega
      · exact hz k (by omega)⟩, by omega, Ent.app ent⟩
theorem a_ContainsFunc (xa : Option Addr) (c : Nat) (p : List Nat) (L : List HP) (hp : p.length ≤ 1000000) (r : RdS 1 xa p.length (nv p) L) :
    TriE Try.prog 25 #[.slice xa p.length c, .func (.func 26) #[] #[]] (fun v M => v = .bool (!decide (∀ k, k < p.length → p.getD k 0 = 0)) ∧ M = L) L := by
  refine Tri.of (N := 9) (args := [.slice xa p.length c, .func (.func 26) #[] #[]]) Try.func25 rfl rfl rfl ?_
  refine go ?_
  refine WO.callE (vs := [.slice xa p.length c, .func (.func 26) #[] #[]]) Try.func43 rfl rfl rfl rfl (a_IndexFunc xa c p _ hp r) ?_
  rintro v M ⟨z, rfl, hz, rfl⟩
  rcases hz with ⟨rfl, hz⟩ | ⟨h1, h2, h3⟩
  · rw [decide_eq_true hz]
    refine go ?_
    exact ⟨rfl, [_], ⟨Res.tmp rfl, trivial⟩, _, ent, rfl, rfl⟩
  · rw [decide_eq_false (fun q => by have := q z.toNat (by omega); omega)]
    refine go ?_
    exact ⟨rfl, [_], ⟨Res.tmp rfl, trivial⟩, _, ent, rfl, rfl⟩
theorem au_Alike (bl cl n : Nat) (ib ic ub uc : Nat → Nat) (xs : Nat → BL) (L : List HP) (hn : n ≤ 11) (hx : ∀ i, i < n → (xs i).length = 32) (hr : rightF (alF xs n) = true) (r0 : RdS 4 (some ⟨bl, 0, none⟩) n (rowS ib ic ub uc n) L)
    (r1 : ∀ i, i < n → RdS 32 (some ⟨ib i, 0, none⟩) 1 (rowI [xs i]) L) :
    TriE Try.prog 13 #[.slice (some ⟨bl, 0, none⟩) n cl] (fun v M => v = .bool (decide (∀ k, k < (lkN xs n).length → (lkN xs n).getD k 0 = 0)) ∧ M = L) L := by
  have h1 := lkV_nv xs n
  have h2 := lkN_len xs n
  refine Tri.of (N := 7) (args := [.slice (some ⟨bl, 0, none⟩) n cl]) Try.func13 rfl rfl rfl ?_
  refine go ?_
  refine WO.callE (vs := [.slice (some ⟨bl, 0, none⟩) n cl]) Try.func11 rfl rfl rfl rfl (au_Behind bl cl n ib ic ub uc xs L hn hx hr r0 r1) ?_
  rintro v M ⟨b, c, rfl, rfl⟩
  rw [h1]
  generalize lkN xs n = p at *
  subst h2
  refine go ?_
  refine WO.callE (vs := [.slice (some ⟨b, 0, none⟩) p.length c, .func (.func 26) #[] #[]]) Try.func25 rfl rfl rfl rfl (a_ContainsFunc (some ⟨b, 0, none⟩) c p _ (by omega) (RdS.ownS Tk.here (fun _ => ⟨b, rfl⟩) (by simp [nv]))) ?_
  rintro v M ⟨rfl, rfl⟩
  refine go ?_
  exact ⟨rfl, [_], ⟨Res.tmp rfl, trivial⟩, L, ent, congrArg Value.bool (Bool.not_not _), rfl⟩
/-- What a fault is called. -/
def auT (n : Int) : BL := if n < 1 ∨ 4 < n then [] else [([110, 97, 109, 101] : BL), [102, 111, 114, 109], [111, 114, 112, 104, 97, 110], [107, 110, 111, 119, 110]].getD (n - 1).toNat []
theorem au_Text (n : Int) (L : List HP) (h1 : -9223372036854775808 ≤ n) (h2 : n < 9223372036854775808) : TriE Try.prog 5 #[.int .i64 n] (fun v M => v = strV (auT n) ∧ M = L) L := by
  refine Tri.of (N := 15) (args := [.int .i64 n]) Try.func5 rfl rfl rfl ?_
  refine go ?_
  refine WO.sv rfl ?_
  refine SV.buildArr (Parts.cons (v := strV [110, 97, 109, 101]) rfl cel (Parts.cons (v := strV [102, 111, 114, 109]) rfl cel (Parts.cons (v := strV [111, 114, 112, 104, 97, 110]) rfl cel (Parts.cons (v := strV [107, 110, 111, 119, 110]) rfl cel Parts.nil)))) rfl nl ?_
  refine go ?_
  intro b
  refine go ?_
  by_cases c1 : n < 1
  · have e : auT n = [] := by unfold auT; rw [if_pos (.inl c1)]
    rw [e]
    refine go ?_
    exact ⟨rfl, [_], ⟨Res.tmp rfl, trivial⟩, L, ent, rfl, rfl⟩
  by_cases c4 : 4 < n
  · have e : auT n = [] := by unfold auT; rw [if_pos (.inr c4)]
    rw [e]
    refine go ?_
    exact ⟨rfl, [_], ⟨Res.tmp rfl, trivial⟩, L, ent, rfl, rfl⟩
  have h4 : n = 1 ∨ n = 2 ∨ n = 3 ∨ n = 4 := by omega
  rcases h4 with rfl | rfl | rfl | rfl
  · refine go ?_
    exact ⟨rfl, [_], ⟨Res.tmp rfl, trivial⟩, L, ent, rfl, rfl⟩
  · refine go ?_
    exact ⟨rfl, [_], ⟨Res.tmp rfl, trivial⟩, L, ent, rfl, rfl⟩
  · refine go ?_
    exact ⟨rfl, [_], ⟨Res.tmp rfl, trivial⟩, L, ent, rfl, rfl⟩
  · refine go ?_
    exact ⟨rfl, [_], ⟨Res.tmp rfl, trivial⟩, L, ent, rfl, rfl⟩
end Go.SL

/- Layer 33 (audit): the play that the statements ask, walked. -/
namespace Go.SL
open Go.Proofs
set_option linter.unusedVariables false
set_option linter.unusedSimpArgs false
set_option linter.unusedSectionVars false
set_option maxRecDepth 10000
set_option maxHeartbeats 4000000
def pick2 {α : Type} (x y : α) : Nat → α
  | 0 => x
  | _ + 1 => y
theorem lk2 : lkN (pick2 uI oI) 2 = [1, 1] := by kernel_rfl
theorem lk1 : lkN (pick2 uI uI) 2 = [0, 0] := by kernel_rfl
theorem rt2 : rightF (alF (pick2 uI oI) 2) = true := by kernel_rfl
theorem rt1 : rightF (alF (pick2 uI uI) 2) = true := by kernel_rfl
theorem fo2 : fo (pick2 uI oI) 2 = [.int .i64 1, .int .i64 1, .int .i64 0] := by kernel_rfl
theorem fn2 : foN (pick2 uI oI) 2 = 1 := by kernel_rfl
theorem pk_len : ∀ i, i < 2 → (pick2 uI oI i).length = 32
  | 0, _ => rfl
  | _ + 1, _ => rfl
theorem pk_len1 : ∀ i, i < 2 → (pick2 uI uI i).length = 32
  | 0, _ => rfl
  | _ + 1, _ => rfl
attribute [local irreducible] W WO SV OW SW Tri Ent Tk Has Src SrcK DA DB DP RdS Own OwnT MapH
theorem l33_one (L : List HP) : TriE Try.prog 6 #[] (fun v M => v = .bool true ∧ M = L) L := by
  have hmu : (uI.map u8V).length = 32 := by rw [List.length_map, uI_len]
  have hmo : (oI.map u8V).length = 32 := by rw [List.length_map, oI_len]
  refine Tri.of (N := 63) (args := []) Try.func6 rfl rfl rfl ?_
  refine go ?_
  intro b1
  refine go ?_
  refine W.ent (M := pts b1 (.cells uC.toArray 41) :: L) ent ?_
  refine W.drawG (fun _ => false) #[0, 1, 3, 0, 8, 31, 0, 127] [pts b1 (.cells uC.toArray 41)] L rfl (by kernel_rfl) (by kernel_rfl) (by kernel_rfl) ent ?_
  refine DB.q (v := .agg uC.toArray) rfl rfl hl (SV.loadN (vs := uC) rfl (sub_full rfl) (by decide) eqq) ?_
  refine DB.callE (vs := [.agg uC.toArray]) Try.func14 rfl rfl rfl rfl hl hl (up_Id _) ?_
  rintro v M ⟨rfl, rfl⟩
  rw [uI_eq]
  refine ⟨[], L, ent, ?_⟩
  refine DB.litH rfl rfl rfl (Parts.cons (v := .agg (uI.map u8V).toArray) rfl Cel.agg Parts.nil) (laid_one (n := 32) rfl hmu) rfl rfl rfl ?_
  intro b2
  refine DB.q (v := .agg uC.toArray) rfl rfl hl (SV.loadN (vs := uC) rfl (sub_full rfl) (by decide) eqq) ?_
  refine DB.litH rfl rfl rfl (Parts.cons (v := .agg uC.toArray) rfl Cel.agg Parts.nil) (laid_one (n := 6) rfl rfl) rfl rfl rfl ?_
  intro b3
  refine go ?_
  refine DB.alloc rfl ?_
  intro b4
  refine go ?_
  refine DB.v rfl rfl rfl hl hl ?_
  refine SV.store (vs := siL b2 1 b3 1) rfl rfl (show Cel (.agg (siL b2 1 b3 1).toArray) (siL b2 1 b3 1) from Cel.agg) rfl rfl rfl frz le0 (lput_full (by rfl)) ?_
  refine ⟨[], pts b4 (.cells (siL b2 1 b3 1).toArray 31) :: pts b3 (.cells uC.toArray 41) :: pts b2 (.cells (uI.map u8V).toArray 58) :: L, ent, ?_⟩
  refine go ?_
  refine ⟨pts b1 (.cells uC.toArray 41) :: pts b4 (.cells (siL b2 1 b3 1).toArray 31) :: pts b3 (.cells uC.toArray 41) :: pts b2 (.cells (uI.map u8V).toArray 58) :: L, ent, ?_⟩
  refine go ?_
  refine WO.sv rfl ?_
  refine SV.buildArr (cs := oI.map u8V) (cs' := oI.map u8V) (Parts.cons (v := .int .u8 1) rfl cel Parts.nil) rfl rfl ?_
  refine WO.sv rfl ?_
  refine SV.lit (sz := 32) rfl rfl rfl (Parts.cons (v := .agg (oI.map u8V).toArray) rfl Cel.agg Parts.nil) (laid_one (n := 32) rfl hmo) rfl ?_
  intro b5
  refine WO.sv rfl ?_
  refine SV.loadN (vs := uC) rfl (sub_full rfl) (by decide) ?_
  refine WO.sv rfl ?_
  refine SV.lit (sz := 6) rfl rfl rfl (Parts.cons (v := .agg uC.toArray) rfl Cel.agg Parts.nil) (laid_one (n := 6) rfl rfl) rfl ?_
  intro b6
  refine go ?_
  intro b7
  refine go ?_
  refine WO.ent (M := pts b7 (.cells (siL b5 1 b6 1).toArray 31) :: pts b4 (.cells (siL b2 1 b3 1).toArray 31) :: pts b2 (.cells (rowI [uI]).toArray 58) :: pts b5 (.cells (rowI [oI]).toArray 58) :: pts b3 (.cells uC.toArray 41) :: pts b6 (.cells uC.toArray 41) :: L) (by rw [rowI_one, rowI_one]; exact ent) ?_
  have hru : (rowI [uI]).length = 1 * 32 := rowI_len (All32.one uI_len)
  have hro : (rowI [oI]).length = 1 * 32 := rowI_len (All32.one oI_len)
  generalize hK : (pts b2 (.cells (rowI [uI]).toArray 58) :: pts b5 (.cells (rowI [oI]).toArray 58) :: pts b3 (.cells uC.toArray 41) :: pts b6 (.cells uC.toArray 41) :: L) = K
  have k1 : ∀ i, i < 2 → RdS 32 (some ⟨pick2 b2 b5 i, 0, none⟩) 1 (rowI [pick2 uI oI i]) K := fun i hi => by
    subst hK
    match i, hi with
    | 0, _ => exact (show RdS 32 (some ⟨b2, 0, none⟩) 1 (rowI [uI]) _ from RdS.all (by exact hru))
    | 1, _ => exact (show RdS 32 (some ⟨b5, 0, none⟩) 1 (rowI [oI]) _ from RdS.cons (RdS.all (by exact hro)))
  have k2 : ∀ i, i < 2 → RdS 6 (some ⟨pick2 b3 b6 i, 0, none⟩) 1 uC K := fun i hi => by
    subst hK
    match i, hi with
    | 0, _ => exact (show RdS 6 (some ⟨b3, 0, none⟩) 1 uC _ from RdS.cons (RdS.cons (RdS.all rfl)))
    | 1, _ => exact (show RdS 6 (some ⟨b6, 0, none⟩) 1 uC _ from RdS.cons (RdS.cons (RdS.cons (RdS.all rfl))))
  have k3 : ∀ i, i < 2 → RdS 32 (some ⟨pick2 b2 b2 i, 0, none⟩) 1 (rowI [pick2 uI uI i]) K := fun i hi => by
    subst hK
    match i, hi with
    | 0, _ => exact (show RdS 32 (some ⟨b2, 0, none⟩) 1 (rowI [uI]) _ from RdS.all (by exact hru))
    | 1, _ => exact (show RdS 32 (some ⟨b2, 0, none⟩) 1 (rowI [uI]) _ from RdS.all (by exact hru))
  have kL : Ent K L := by
    subst hK
    exact ent
  clear hK
  refine WO.sv rfl ?_
  refine SV.lit (sz := 4) (cs := rowS (pick2 b2 b5) (fun _ => 1) (pick2 b3 b6) (fun _ => 1) 2) rfl rfl rfl (Parts.cons (v := .agg (siL b2 1 b3 1).toArray) rfl Cel.agg (Parts.cons (v := .agg (siL b5 1 b6 1).toArray) rfl Cel.agg Parts.nil)) rfl rfl ?_
  intro b8
  refine WO.callE (vs := [.slice (some ⟨b8, 0, none⟩) 2 2]) Try.func9 rfl rfl rfl rfl (au_Check b8 2 2 (pick2 b2 b5) (fun _ => 1) (pick2 b3 b6) (fun _ => 1) (pick2 uI oI) _ (by decide) pk_len (RdS.all rfl) (fun i hi => (k1 i hi).cons.cons.cons) (fun i hi => (k2 i hi).cons.cons.cons)) ?_
  rintro v M ⟨ac, cc, rfl, hac, rfl⟩
  rw [fn2, fo2] at *
  obtain ⟨bc, rfl⟩ := hac (by decide)
  refine go ?_
  refine WO.sv rfl ?_
  refine SV.lit (sz := 4) (cs := rowS (pick2 b2 b5) (fun _ => 1) (pick2 b3 b6) (fun _ => 1) 2) rfl rfl rfl (Parts.cons (v := .agg (siL b2 1 b3 1).toArray) rfl Cel.agg (Parts.cons (v := .agg (siL b5 1 b6 1).toArray) rfl Cel.agg Parts.nil)) rfl rfl ?_
  intro b9
  refine WO.callE (vs := [.slice (some ⟨b9, 0, none⟩) 2 2]) Try.func11 rfl rfl rfl rfl (au_Behind b9 2 2 (pick2 b2 b5) (fun _ => 1) (pick2 b3 b6) (fun _ => 1) (pick2 uI oI) _ (by decide) pk_len rt2 (RdS.all rfl) (fun i hi => (k1 i hi).cons.cons.cons.cons.cons)) ?_
  rintro v M ⟨bn, cn, rfl, rfl⟩
  rw [lkV_nv, lk2]
  refine go ?_
  have rf : ∀ X, RdS 3 (some ⟨bc, 0, none⟩) 1 [.int .i64 1, .int .i64 1, .int .i64 0] (OF (some ⟨bc, 0, none⟩) cc 1 [.int .i64 1, .int .i64 1, .int .i64 0] :: X) := fun X => by
    unfold OF; exact RdS.own Tk.here (fun _ => ⟨bc, rfl⟩) rfl
  have rn : ∀ X, RdS 1 (some ⟨bn, 0, none⟩) 2 [.int .i64 1, .int .i64 1] (Own 3 1 (.slice (some ⟨bn, 0, none⟩) 2 cn) 2 (nv [1, 1]) :: X) := fun X => RdS.ownS Tk.here (fun _ => ⟨bn, rfl⟩) rfl
  refine WO.sv rfl ?_
  refine SV.loadRN (k := 3) (vs := [.int .i64 1, .int .i64 1, .int .i64 0]) 0 rfl (rf _).cons.cons rfl (by decide) (by decide) rfl ?_
  refine go ?_
  refine WO.sv rfl ?_
  refine SV.eqlSt (xs := [.int .i64 1, .int .i64 1, .int .i64 0]) (ys := [.int .i64 1, .int .i64 1, .int .i64 0]) (b := true) rfl rfl rfl rfl rfl (sEq_self _) ?_
  refine go ?_
  refine WO.sv rfl ?_
  refine SV.loadR (v := .int .i64 1) 0 rfl (rn _) rfl rfl ?_
  refine go ?_
  refine WO.sv rfl ?_
  refine SV.loadR (v := .int .i64 1) 1 rfl (rn _) rfl rfl ?_
  refine go ?_
  refine WO.sv rfl ?_
  refine SV.lit (sz := 4) (cs := rowS (pick2 b2 b2) (fun _ => 1) (pick2 b3 b3) (fun _ => 1) 2) rfl rfl rfl (Parts.cons (v := .agg (siL b2 1 b3 1).toArray) rfl Cel.agg (Parts.cons (v := .agg (siL b2 1 b3 1).toArray) rfl Cel.agg Parts.nil)) rfl rfl ?_
  intro b10
  refine go ?_
  refine WO.callE (vs := [.slice (some ⟨b10, 0, none⟩) 2 2]) Try.func13 rfl rfl rfl rfl (au_Alike b10 2 2 (pick2 b2 b2) (fun _ => 1) (pick2 b3 b3) (fun _ => 1) (pick2 uI uI) _ (by decide) pk_len1 rt1 (RdS.all rfl) (fun i hi => (k3 i hi).cons.cons.cons.cons.cons.cons.cons)) ?_
  rintro v M ⟨rfl, rfl⟩
  rw [lk1]
  rw [show decide (∀ k, k < ([0, 0] : List Nat).length → ([0, 0] : List Nat).getD k 0 = 0) = true by decide]
  refine go ?_
  refine WO.callE (vs := [.int .i64 3]) Try.func5 rfl rfl rfl rfl (au_Text 3 _ (by decide) (by decide)) ?_
  rintro v M ⟨rfl, rfl⟩
  refine go ?_
  refine WO.sv rfl ?_
  refine SV.eqlST (a := auT 3) (b := [111, 114, 112, 104, 97, 110]) rfl rfl rfl ?_
  refine go ?_
  exact ⟨rfl, [_], ⟨Res.tmp rfl, trivial⟩, L, Ent.drop (Ent.drop (Ent.drop (Ent.drop (Ent.drop (Ent.drop (Ent.drop kL)))))), rfl, rfl⟩
theorem auT_in (n : Int) : (auT n ≠ [] ↔ 1 ≤ n ∧ n ≤ 4) := by
  by_cases c1 : n < 1
  · rw [show auT n = [] by unfold auT; rw [if_pos (.inl c1)]]
    exact ⟨fun h => absurd rfl h, fun h => by omega⟩
  by_cases c4 : 4 < n
  · rw [show auT n = [] by unfold auT; rw [if_pos (.inr c4)]]
    exact ⟨fun h => absurd rfl h, fun h => by omega⟩
  have h4 : n = 1 ∨ n = 2 ∨ n = 3 ∨ n = 4 := by omega
  rcases h4 with rfl | rfl | rfl | rfl <;> decide
theorem auT_inj {n m : Int} (hn : 1 ≤ n ∧ n ≤ 4) (hm : 1 ≤ m ∧ m ≤ 4) (h : auT n = auT m) : n = m := by
  have h4 : n = 1 ∨ n = 2 ∨ n = 3 ∨ n = 4 := by omega
  have k4 : m = 1 ∨ m = 2 ∨ m = 3 ∨ m = 4 := by omega
  rcases h4 with rfl | rfl | rfl | rfl <;> rcases k4 with rfl | rfl | rfl | rfl <;> first | rfl | (exfalso; revert h; decide)
theorem l33_Names (a b : Int) (L : List HP) (ha : -9223372036854775808 ≤ a ∧ a < 9223372036854775808) (hb : -9223372036854775808 ≤ b ∧ b < 9223372036854775808) : TriE Try.prog 3 #[.int .i64 a, .int .i64 b] (fun v M => v = .bool true ∧ M = L) L := by
  have e1 := auT_in a
  have e2 := auT_in b
  have e3 := @auT_inj a b
  refine Tri.of (N := 37) (args := [.int .i64 a, .int .i64 b]) Try.func3 rfl rfl rfl ?_
  refine go ?_
  refine WO.callE (vs := [.int .i64 a]) Try.func5 rfl rfl rfl rfl (au_Text a _ ha.1 ha.2) ?_
  rintro v M ⟨rfl, rfl⟩
  refine go ?_
  refine WO.callE (vs := [.int .i64 b]) Try.func5 rfl rfl rfl rfl (au_Text b _ hb.1 hb.2) ?_
  rintro v M ⟨rfl, rfl⟩
  generalize auT a = s at *
  generalize auT b = t at *
  refine go ?_
  by_cases ca : 1 ≤ a ∧ a ≤ 4
  · obtain ⟨ca1, ca4⟩ := ca
    have hs := e1.2 ⟨ca1, ca4⟩
    refine WO.sv rfl ?_
    refine SV.neqST (a := s) (b := []) rfl rfl hs ?_
    refine go ?_
    by_cases st : s = t
    · have hab := e3 ⟨ca1, ca4⟩ (e2.1 (st ▸ hs)) st
      refine WO.sv rfl ?_
      refine SV.neqSF (a := s) (b := t) rfl rfl st ?_
      refine go ?_
      refine WO.callE (vs := []) Try.func6 rfl rfl rfl rfl (l33_one _) ?_
      rintro v M ⟨rfl, rfl⟩
      refine go ?_
      exact ⟨rfl, [_], ⟨Res.tmp rfl, trivial⟩, _, ent, rfl, rfl⟩
    · refine WO.sv rfl ?_
      refine SV.neqST (a := s) (b := t) rfl rfl st ?_
      refine go ?_
      refine WO.callE (vs := []) Try.func6 rfl rfl rfl rfl (l33_one _) ?_
      rintro v M ⟨rfl, rfl⟩
      refine go ?_
      exact ⟨rfl, [_], ⟨Res.tmp rfl, trivial⟩, _, ent, rfl, rfl⟩
  have hs : s = [] := Classical.byContradiction fun h => ca (e1.1 h)
  subst hs
  refine WO.sv rfl ?_
  refine SV.neqSF (a := []) (b := []) rfl rfl rfl ?_
  by_cases c1 : a < 1
  · refine go ?_
    by_cases st : ([] : BL) = t
    · refine WO.sv rfl ?_
      refine SV.neqSF (a := []) (b := t) rfl rfl st ?_
      by_cases hab : a = b
      · refine go ?_
        refine WO.callE (vs := []) Try.func6 rfl rfl rfl rfl (l33_one _) ?_
        rintro v M ⟨rfl, rfl⟩
        refine go ?_
        exact ⟨rfl, [_], ⟨Res.tmp rfl, trivial⟩, _, ent, rfl, rfl⟩
      · refine go ?_
        refine WO.sv rfl ?_
        refine SV.eqlST (a := []) (b := []) rfl rfl rfl ?_
        refine go ?_
        refine WO.callE (vs := []) Try.func6 rfl rfl rfl rfl (l33_one _) ?_
        rintro v M ⟨rfl, rfl⟩
        refine go ?_
        exact ⟨rfl, [_], ⟨Res.tmp rfl, trivial⟩, _, ent, rfl, rfl⟩
    · refine WO.sv rfl ?_
      refine SV.neqST (a := []) (b := t) rfl rfl st ?_
      refine go ?_
      refine WO.callE (vs := []) Try.func6 rfl rfl rfl rfl (l33_one _) ?_
      rintro v M ⟨rfl, rfl⟩
      refine go ?_
      exact ⟨rfl, [_], ⟨Res.tmp rfl, trivial⟩, _, ent, rfl, rfl⟩
  have c4 : 4 < a := by omega
  refine go ?_
  by_cases st : ([] : BL) = t
  · refine WO.sv rfl ?_
    refine SV.neqSF (a := []) (b := t) rfl rfl st ?_
    by_cases hab : a = b
    · refine go ?_
      refine WO.callE (vs := []) Try.func6 rfl rfl rfl rfl (l33_one _) ?_
      rintro v M ⟨rfl, rfl⟩
      refine go ?_
      exact ⟨rfl, [_], ⟨Res.tmp rfl, trivial⟩, _, ent, rfl, rfl⟩
    · refine go ?_
      refine WO.sv rfl ?_
      refine SV.eqlST (a := []) (b := []) rfl rfl rfl ?_
      refine go ?_
      refine WO.callE (vs := []) Try.func6 rfl rfl rfl rfl (l33_one _) ?_
      rintro v M ⟨rfl, rfl⟩
      refine go ?_
      exact ⟨rfl, [_], ⟨Res.tmp rfl, trivial⟩, _, ent, rfl, rfl⟩
  · refine WO.sv rfl ?_
    refine SV.neqST (a := []) (b := t) rfl rfl st ?_
    refine go ?_
    refine WO.callE (vs := []) Try.func6 rfl rfl rfl rfl (l33_one _) ?_
    rintro v M ⟨rfl, rfl⟩
    refine go ?_
    exact ⟨rfl, [_], ⟨Res.tmp rfl, trivial⟩, _, ent, rfl, rfl⟩
end Go.SL
