/-
  Bytes and texts. Conditions: none.
-/
import Derived.Test.YtcnclhjhnjpeiaaDoorSxP
import Derived.Laws.BytesArg
namespace Go.SX

theorem strOfNums_u8 (xs : List UInt8) : strOfNums (xs.map fun x => (x.toNat : Int)) = ⟨xs.toArray⟩ := by
  unfold strOfNums
  congr 2
  rw [List.map_map]
  conv => rhs; rw [← List.map_id xs]
  apply List.map_congr_left
  intro x _
  simp

section
variable {P : Program} {E : World} {Γ : Ty} {n : Nat}

/-- a slice of bytes becomes a text -/
theorem conv_bs (hΓ : TyOk P Γ) (xs : List UInt8) {dst : Option Nat} {x : Operand} {t u e ty : TypeId} {pos : String} {after : Array Edge} {guard : Option (Nat × Bool)} {fr : Fr} {bl : List Blk} {R : List Hp} {K : St → Prop}
    {base : Option Addr} {m cap : Nat} (hx1 : getK fr x fun sv => sv = .v (.slice base m cap)) (hr : (rpSl flByte.rp).rd (St.hall ⟨[], bl, R⟩) [.slice base m cap] xs)
    (ht : undOf Γ t = some (.slice e)) (he : undOf Γ e = some (.int .u8)) (hu : undOf Γ u = some .string)
    (hk : putK n fr dst (.v (.string ⟨xs.toArray⟩)) fun fr => K ⟨fr, bl, R⟩) : VCraw P E n ⟨dst, .convert t u x, ty, pos, after, guard⟩ ⟨fr, bl, R⟩ K := by
  refine ⟨fun a w hrel Q => ?_⟩
  obtain ⟨sv, g1, _, rfl⟩ := getK_sound hrel hx1
  refine wp_value (s := .v _) (v := .string ⟨xs.toArray⟩) ?_ hrel rfl trivial hk
  have key : (convert t u (.slice base m cap)).run P w = .ok (.string ⟨xs.toArray⟩) w := by
    obtain ⟨base', cap', e1, h1, h2⟩ := hr
    cases e1
    have ht' := undOf_ok hΓ ht
    have he' := undOf_ok hΓ he
    have hu' := undOf_ok hΓ hu
    cases xs with
    | nil =>
      rw [run_convert_bytes_string w t u e _ _ _ ht' he' hu']
      cases base with
      | none => rfl
      | some a => exact run_bytesToString w a 0 cap [] rfl
    | cons x0 r =>
      obtain ⟨b, o, l', hb, hc, _⟩ := h2 0 (by simp)
      subst hb
      rw [← strOfNums_u8]
      refine run_convert_bytes_arg w t e ht' he' b o (x0 :: r).length cap ((x0 :: r).map fun x => (x.toNat : Int)) (by simp) (fun i hi => ?_) u hu'
      obtain ⟨b2, o2, l2, hb2, hc2, hl2, _⟩ := h2 i hi
      cases hb2
      obtain ⟨_, cs, T, fz, k1, k2⟩ := hc2
      have k3 := k2 0 (by show 0 < 1; omega)
      rw [hrel.sat.cell k1]
      have e2 : flByte.rp.size = 1 := rfl
      rw [e2, Nat.mul_one, Nat.add_zero] at k3
      rw [k3, hl2, List.getD_eq_getElem?_getD, List.getElem?_map, List.getElem?_eq_getElem hi]
      rfl
  simp only [execOp, g1, SV.den, Sem.run_bind, key, Sem.run_pure, Result.andThen_ok]

theorem bsz (l : List UInt8) : (⟨l.toArray⟩ : ByteArray).size = l.length := by simp [ByteArray.size]
def inU8 : List Int → Prop
  | [] => True
  | v :: r => (0 ≤ v ∧ v < 256) ∧ inU8 r
theorem inU8_1 (x : UInt8) : inU8 [(x.toNat : Int)] := ⟨⟨by omega, by have := x.toNat_lt; omega⟩, trivial⟩
theorem lit_bs (vs : List Int) {b : Nat} {e : TypeId} {H : Hp} {cs : List Value} (hm : (b, Obj.cells ⟨cs⟩ e) ∈ H) (hc : cs = vs.map fun v => Value.int .u8 v) (h : inU8 vs) (hl : vs.length ≤ 9223372036854775807) : (rpSl flByte.rp).rd H [.slice (some ⟨b, 0, none⟩) vs.length vs.length] (vs.map fun v => UInt8.ofNat v.toNat) := by
  subst hc
  refine ⟨some ⟨b, 0, none⟩, vs.length, by simp, by simpa using hl, fun i hi => ?_⟩
  have hi' : i < vs.length := by simpa using hi
  refine ⟨b, 0, [.int .u8 vs[i]], rfl, ⟨rfl, _, _, _, hm, fun j hj => ?_⟩, ?_, trivial⟩
  · have : j = 0 := by have : j < 1 := hj; omega
    subst this
    have e2 : flByte.rp.size = 1 := rfl
    simp [e2, hi']
  · have key : ∀ (vs : List Int) (i : Nat) (hi : i < vs.length), inU8 vs → 0 ≤ vs[i] ∧ vs[i] < 256 := by
      intro vs
      induction vs with
      | nil => intro i hi; simp at hi
      | cons v r ih =>
        intro i hi h
        cases i with
        | zero => exact h.1
        | succ i => exact ih i (by simpa using hi) h.2
    have := key vs i hi' h
    show [Value.int .u8 vs[i]] = [.int .u8 ((vs.map fun v => UInt8.ofNat v.toNat)[i]).toNat]
    rw [List.getElem_map]
    simp; omega

theorem lit_u8 {b : Nat} {v : Int} {e : TypeId} {H : Hp} (hm : (b, Obj.cells ⟨[.int .u8 v]⟩ e) ∈ H) (h0 : 0 ≤ v) (h1 : v < 256) : (rpSl flByte.rp).rd H [.slice (some ⟨b, 0, none⟩) 1 1] [UInt8.ofNat v.toNat] := by
  refine lit_rd (f := flByte) hm ?_ trivial
  show [Value.int .u8 v] = [.int .u8 (UInt8.ofNat v.toNat).toNat]
  simp; omega
end
end Go.SX
