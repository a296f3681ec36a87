/- Bytes made of a string. Generic in the program. -/
import Derived.Test.YtcjpiceklicmoaaGreatDoorSlI
import Derived.Test.YtcjpiceklicmoaaGreatDoorSlK
namespace Go.SL
set_option linter.unusedVariables false
set_option linter.unusedSimpArgs false
set_option maxRecDepth 10000
section
variable {P : Program} {ro : Option Nat} {f : Frm} {L : List HP} {d : Option Nat} {ty : TypeId} {ps : String} {af : Array Edge} {gu : Option (Nat × Bool)} {K : Value → List HP → Prop}
theorem SV.toBytes {s u e : TypeId} {x : Operand} {bs : List UInt8} (hx : f.ev x = .string ⟨bs.toArray⟩) [hs : TU P s .string] [hu : TU P u (.slice e)] [he : TU P e (.int .u8)]
    (h : ∀ b c, bs.length ≤ c → K (.slice (some ⟨b, 0, none⟩) bs.length c) (Own e 1 (.slice (some ⟨b, 0, none⟩) bs.length c) bs.length (bs.map u8V) :: L)) : SV P ro ⟨d, .convert s u x, ty, ps, af, gu⟩ f K L := by
  refine (SV.val (Go.convert s u (f.ev x)) (by intro c h; cases h) rfl ?_)
  rw [hx]
  refine SW.bind (SW.underlying hs.h (SW.bind (SW.underlying hu.h (SW.bind (SW.underlying he.h ?_)))))
  show SW P (Conv.stringToBytes e ⟨bs.toArray⟩) K L
  unfold Conv.stringToBytes
  refine SW.bind (SW.choose fun t => ?_)
  generalize hC : (if (Question.appendCap (⟨bs.toArray⟩ : ByteArray).size 0 e).forced = true then 0 else (Question.appendCap (⟨bs.toArray⟩ : ByteArray).size 0 e).cut t) = C
  have hsz : (⟨bs.toArray⟩ : ByteArray).size = bs.length := rfl
  have hC2 : bs.length ≤ C := by rw [← hC, hsz]; simp [Question.forced, Question.cut]
  have ecs : (Array.map (fun b : UInt8 => Value.int .u8 b.toNat) (⟨bs.toArray⟩ : ByteArray).data) ++ Array.replicate (C - (⟨bs.toArray⟩ : ByteArray).size) (Value.int .u8 0) = (bs.map u8V ++ List.replicate (C - bs.length) (Value.int .u8 0)).toArray := by
    apply Array.toList_inj.1
    simp [u8V, hsz]
  dsimp only
  rw [ecs]
  refine SW.bind (SW.bind (SW.new fun b => SW.pure ?_))
  refine SW.bind ?_
  unfold Go.markStringish
  refine SW.bind (SW.shape (cs := (bs.map u8V ++ List.replicate (C - bs.length) (Value.int .u8 0)).toArray) (T := e) (fr := (0, 0)) Rd.here ?_)
  refine SW.freeze1 (M := fun o => pts b o :: L) Wr.here ?_
  have hlen : (bs.map u8V ++ List.replicate (C - bs.length) (Value.int .u8 0)).toArray.size = C := by simp; omega
  refine SW.ent (M := Own e 1 (.slice (some ⟨b, 0, none⟩) bs.length C) bs.length (bs.map u8V) :: L) (fun k y => ?_) (SW.pure (h b C hC2))
  refine own_of (sp := List.replicate (C - bs.length) (Value.int .u8 0)) (fr := (C, C + 1)) ⟨rfl, hC2, by simp, by simp, .inr (by simp)⟩ ?_
  rw [hlen] at y
  exact y
/-- A cut of a slice, its place told. -/
theorem SV.cutX {t e sz : Nat} {x : Operand} {lo hi : Option Operand} {b off len cap l h : Nat} (hx : f.ev x = .slice (some ⟨b, off, none⟩) len cap) [he : TE P t e sz] (hl : cutAt f lo 0 l) (hh : cutAt f hi len h) (h1 : l ≤ h) (h2 : h ≤ cap)
    (k : K (.slice (some ⟨b, if cap = l then off else off + l * sz, none⟩) (h - l) (cap - l)) L) : SV P ro ⟨d, .slice t x lo hi none, ty, ps, af, gu⟩ f K L := by
  by_cases hc : cap = l
  · subst hc
    obtain ⟨hs, hn⟩ := elemOf_some he.h
    refine (SV.val (Instr.sliceAt t (f.ev x) (lo.map f.ev) (hi.map f.ev) (Option.map f.ev none)) (by intro c h; cases h) rfl ?_)
    rw [hx]
    unfold Instr.sliceAt
    refine SW.bind (SW.underlying hs ?_)
    unfold Instr.slice
    refine SW.bind (SW.underlying hs ?_)
    refine SW.bind (SW.runs (fun _ w _ => sliceBounds_ok hl hh h1 h2) ?_)
    refine SW.bind (SW.sizeOf hn (SW.pure ?_))
    rw [if_pos rfl] at k ⊢
    exact k
  · rw [if_neg hc] at k
    exact SV.cut hx hl hh h1 h2 fun off' ho => by rw [ho (.inl (by omega))]; exact k
theorem RdS.zero {a : Option Addr} : RdS 1 a 0 [] L := ⟨by simp, fun h => absurd rfl h, fun b off e h => absurd rfl h⟩
end
theorem u8_any (z : Int) : ∃ c : UInt8, IntKind.u8.wrap z = c.toNat := by
  have h0 : 0 ≤ IntKind.u8.wrap z := Int.emod_nonneg _ (by decide)
  have h1 : IntKind.u8.wrap z < 256 := Int.emod_lt_of_pos _ (by decide)
  refine ⟨UInt8.ofNat (IntKind.u8.wrap z).toNat, ?_⟩
  have : (UInt8.ofNat (IntKind.u8.wrap z).toNat).toNat = (IntKind.u8.wrap z).toNat := by simp; omega
  rw [this, Int.toNat_of_nonneg h0]
end Go.SL
