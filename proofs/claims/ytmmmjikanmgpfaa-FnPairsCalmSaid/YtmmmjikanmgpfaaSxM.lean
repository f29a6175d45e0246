/-
  A text as bytes of its own. Conditions: none.
-/
import Derived.Test.YtmmmjikanmgpfaaSxK
import Derived.Laws.IdiomStrings
namespace Go.SX

/-- A is what a slice of bytes xs owns that was made of a text: past its cells lies the run-time's mark -/
def Sb (T : TypeId) (b cap : Nat) (xs : List UInt8) (A : Hp) : Prop :=
  ∃ (lo : Nat) (sp : List Value), A = [(b, Obj.cells ⟨xs.map (fun y => Value.int .u8 (y.toNat : Int)) ++ sp⟩ T (lo, lo + 1))] ∧ xs.length ≤ lo ∧ xs.length ≤ cap ∧ xs.length ≤ 9223372036854775807
theorem Sb.rd {T : TypeId} {b cap : Nat} {xs : List UInt8} {A : Hp} (h : Sb T b cap xs A) : (gSl T gY).rd A [.slice (some ⟨b, 0, none⟩) xs.length cap] xs := by
  obtain ⟨lo, sp, rfl, h1, h2, h3⟩ := h
  refine ⟨_, cap, rfl, ⟨h2, h3⟩, fun i hi => ⟨b, 0, [.int .u8 (xs[i].toNat : Int)], rfl, ⟨rfl, _, _, _, List.mem_singleton.2 rfl, fun j hj => ?_⟩, rfl, trivial⟩⟩
  have hs : gY.toRp.size = 1 := rfl
  rw [hs] at hj ⊢
  obtain rfl : j = 0 := by omega
  simp only [Nat.zero_add, Nat.mul_one, Nat.add_zero, List.getElem?_toArray]
  rw [List.getElem?_append_left (by simpa using hi), List.getElem?_map, List.getElem?_eq_getElem hi]
  rfl
theorem Sb.store {T : TypeId} {b cap : Nat} {xs : List UInt8} {A : Hp} (h : Sb T b cap xs A) {R : List Hp} (Rr : List Hp) (hR : RLe R (A :: Rr)) {i : Int} {b' o' off : Nat} {v : Int} {F : List Hp → Prop} (hb : (some ⟨b, 0, none⟩ : Option Addr) = some ⟨b', o', none⟩) (k : Nat) (hk : k < xs.length) (hi : i = (k : Int)) (hoff : off = o' + i.toNat * 1) (hv : 0 ≤ v ∧ v < 256)
    (c : ∀ A', Sb T b cap (xs.set k (UInt8.ofNat v.toNat)) A' → F (A' :: Rr)) : VCstore R b' off [.int .u8 v] F := by
  obtain ⟨lo, sp, rfl, h1, h2, h3⟩ := h
  cases hb
  subst hi hoff
  have ek : ((k : Nat) : Int).toNat = k := Int.toNat_natCast k
  have ev : (Value.int .u8 ((UInt8.ofNat v.toNat).toNat : Int)) = .int .u8 v := by
    congr 1
    rw [UInt8.toNat_ofNat']; omega
  refine .frz _ (([(b, Obj.cells ⟨(xs.set k (UInt8.ofNat v.toNat)).map (fun y => Value.int .u8 (y.toNat : Int)) ++ sp⟩ T (lo, lo + 1))]) :: Rr) _ hR ⟨[], Rr, [], [], _, T, lo, lo + 1, _, rfl, rfl, ?_, ?_, ?_⟩ ⟨[], by simp⟩ (c _ ⟨lo, sp, rfl, by rw [List.length_set]; exact h1, by rw [List.length_set]; exact h2, by rw [List.length_set]; exact h3⟩)
  · show 0 + ((k : Nat) : Int).toNat * 1 < (xs.map _ ++ sp).length
    rw [ek, List.length_append, List.length_map]; omega
  · rw [ek]; omega
  · simp only [List.nil_append]
    congr 4
    rw [ek, Nat.zero_add, Nat.mul_one, List.set_append_left _ _ (by rw [List.length_map]; exact hk), List.map_set, ev]

section
variable {P : Program} {E : World} {Γ : Ty} {n : Nat}
/-- a text becomes a slice of bytes -/
theorem conv_sb (hΓ : TyOk P Γ) (s : ByteArray) {dst : Option Nat} {x : Operand} {t u e ty : TypeId} {pos : String} {after : Array Edge} {guard : Option (Nat × Bool)} {fr : Fr} {bl : List Blk} {R : List Hp} {K : St → Prop}
    (hx1 : getK fr x fun sv => sv = .v (.string s)) (ht : undOf Γ t = some .string) (hu : undOf Γ u = some (.slice e)) (he : undOf Γ e = some (.int .u8)) (hl : s.size ≤ 9223372036854775807)
    (hk : ∀ b cap A, Sb e b cap s.data.toList A → putK n fr dst (.v (.slice (some ⟨b, 0, none⟩) s.size cap)) fun fr => K ⟨fr, bl, A :: R⟩) : VCraw P E n ⟨dst, .convert t u x, ty, pos, after, guard⟩ ⟨fr, bl, R⟩ K := by
  refine ⟨fun a w hr Q => ?_⟩
  obtain ⟨sv, g1, _, rfl⟩ := getK_sound hr hx1
  have key := run_bytes_of_string w t u e s (undOf_ok hΓ ht) (undOf_ok hΓ hu) (undOf_ok hΓ he)
  have hge := grownCap_ge w s.size 0 e
  have hrow : (bytesRow s (grownCap w s.size 0 e)).size = grownCap w s.size 0 e := by
    unfold bytesRow
    rw [Array.size_append, Array.size_map, Array.size_replicate]
    show s.size + _ = _
    omega
  have hlen : s.data.toList.length = s.size := by simp
  have hr1 : Rel E n ⟨fr, bl, R⟩ a w.drew := ⟨hr.size, hr.defers, hr.val, ⟨hr.sat.os, hr.sat.out, hr.sat.tape, hr.sat.mem, hr.sat.nodup, Nat.le_trans hr.sat.dr (Nat.le_succ _)⟩⟩
  have hr2 := hr1.pushR (.cells (bytesRow s (grownCap w s.size 0 e)) e ((bytesRow s (grownCap w s.size 0 e)).size, (bytesRow s (grownCap w s.size 0 e)).size + 1))
  refine wp_value (s := .v _) (v := .slice (some ⟨w.heap.size, 0, none⟩) s.size (grownCap w s.size 0 e)) ?_ hr2 rfl trivial (hk w.heap.size (grownCap w s.size 0 e) _ ⟨grownCap w s.size 0 e, List.replicate (grownCap w s.size 0 e - s.size) (.int .u8 0), ?_, by rw [hlen]; exact hge, by rw [hlen]; exact hge, by rw [hlen]; exact hl⟩)
  · simp only [execOp, g1, SV.den, Sem.run_bind, key, Sem.run_pure, Result.andThen_ok]
  · rw [hrow]
    show [(w.heap.size, Obj.cells (bytesRow s (grownCap w s.size 0 e)) e _)] = _
    congr 3
    unfold bytesRow
    apply Array.ext'
    simp
end
end Go.SX
