/-
  An owned slice with one element taken out. Conditions: none.
-/
import Derived.Test.YtmmmjikanmgpfaaSxQ
namespace Go.SX
section
variable {α : Type} {g : Gt α} {T : TypeId}

/-- Ar is what an owned slice is without what its element k, whose cells are l, owns -/
def Hole (T : TypeId) (g : Gt α) (base : Option Addr) (m cap : Nat) (xs : List α) (k : Nat) (l : List Value) (Ar : Hp) : Prop :=
  k < xs.length ∧ ∃ (ls : List (RawC g.size)) (A0 : Hp) (As : List Hp) (hk : k < ls.length), Ow (flRaw g.size g.pos) T (.slice base m cap) ls A0 ∧ Ar.Perm (A0 ++ (As.set k []).flatten) ∧ OwL g ls xs As ∧ (ls[k]'hk).1 = l

theorem hole_of {base : Option Addr} {m cap : Nat} {xs : List α} {A : Hp} (z : α) (k : Nat) (h : (gSl T g).ow [.slice base m cap] xs A) (hk : k < xs.length) :
    ∃ l Af Ar, A.Perm (Af ++ Ar) ∧ g.ow l (xs[k]?.getD z) Af ∧ Hole T g base m cap xs k l Ar := by
  obtain ⟨v, ls, A0, As, e, ho, hp, hl⟩ := h
  cases e
  obtain ⟨e1, e2⟩ := hl.len
  have h0 := hl.get k hk (by omega) (by omega)
  have h0' : g.ow (ls[k]'(by omega)).1 (xs[k]?.getD z) (As[k]'(by omega)) := by
    have e3 : xs[k]?.getD z = xs[k] := by rw [List.getElem?_eq_getElem hk]; rfl
    rw [e3]; exact h0
  refine ⟨_, As[k]'(by omega), A0 ++ (As.set k []).flatten, ?_, h0', hk, ls, A0, As, by omega, ho, .refl _, hl, rfl⟩
  refine hp.trans (((flat_lists As k (by omega)).append_left A0).trans ?_)
  rw [← List.append_assoc, ← List.append_assoc]
  exact List.perm_append_comm.append_right _

theorem hole_load {base : Option Addr} {m cap : Nat} {xs : List α} {Ar H : Hp} {k : Nat} {l : List Value} (h : Hole T g base m cap xs k l Ar) {i : Int} {b o off s : Nat} {F : List Value → Prop} (hi : i = (k : Int)) (hb : base = some ⟨b, o, none⟩) (hoff : off = o + i.toNat * g.size) (hs : s = g.size) (sub : ∀ p ∈ Ar, p ∈ H) (c : F l) : VCload H b off s F := by
  obtain ⟨hk, ls, A0, As, hk2, ho, hp, hl, rfl⟩ := h
  subst hi hs hoff
  obtain ⟨base', cap', ee, _, hrd⟩ := ho.rd
  cases ee
  obtain ⟨b', o', l', k1, k2, k3, _⟩ := hrd k hk2
  rw [hb] at k1; cases k1
  have k3 : l' = (ls[k]'hk2).1 := k3
  rw [← k3] at c
  refine .intro l' (k2.mono fun p hp' => sub p (hp.mem_iff.2 (List.mem_append_left _ hp'))) c

open Classical in
theorem hole_store {R : List Hp} {Ar : Hp} (B : Hp) (Rr : List Hp) {base : Option Addr} {m cap : Nat} {xs : List α} {k : Nat} {l0 : List Value} (h : Hole T g base m cap xs k l0 Ar) {i : Int} {b o off : Nat} {l : List Value} {F : List Hp → Prop} (hR : RLe R (Ar :: B :: Rr)) (hi : i = (k : Int))
    (hb : base = some ⟨b, o, none⟩) (hoff : off = o + i.toNat * g.size) (y : α) (hy : g.ow l y B)
    (c : ∀ A', (gSl T g).ow [.slice base m cap] (xs.set k y) A' → F (A' :: Rr)) : VCstore R b off l F := by
  obtain ⟨hk, ls, A0, As, hk2, ho, hp, hl, -⟩ := h
  subst hi
  have ek : ((k : Nat) : Int).toNat = k := Int.toNat_natCast k
  rw [ek] at hoff
  obtain ⟨L, hL⟩ := hR
  obtain ⟨e1, e2⟩ := hl.len
  have hraw := raw_of (g.owrd hy)
  obtain ⟨hw, hlen, base', cap', e, h2⟩ := ho
  cases e
  rcases h2 with ⟨rfl, rfl, rfl⟩ | ⟨b', sp, h3, rfl, h4, h5⟩
  · simp at hk2
  · rw [hb] at h3; cases h3
    subst hoff
    have hset := flat_set (flRaw g.size g.pos) ls k ⟨l, hraw⟩ sp hk2
    refine .part ([[(b, Obj.cells ⟨ls.flatMap (flRaw g.size g.pos).enc ++ sp⟩ T)], (As.set k []).flatten ++ (B ++ (Rr.flatten ++ L))])
      ([[(b, Obj.cells ⟨(ls.set k ⟨l, hraw⟩).flatMap (flRaw g.size g.pos).enc ++ sp⟩ T)], (As.set k []).flatten ++ (B ++ (Rr.flatten ++ L))])
      (([(b, Obj.cells ⟨(ls.set k ⟨l, hraw⟩).flatMap (flRaw g.size g.pos).enc ++ sp⟩ T)] ++ (As.set k B).flatten) :: Rr) ?_ ?_ ?_
      (c _ ⟨_, ls.set k ⟨l, hraw⟩, [(b, Obj.cells ⟨(ls.set k ⟨l, hraw⟩).flatMap (flRaw g.size g.pos).enc ++ sp⟩ T)], As.set k B, rfl, ?_, .refl _, hl.set (l := ⟨l, hraw⟩) hy k⟩)
    · refine ⟨[], ?_⟩
      refine hL.trans ?_
      simp only [List.flatten_cons, List.flatten_nil, List.append_nil]
      have := hp.append_right (B ++ (Rr.flatten ++ L))
      simpa only [List.append_assoc] using this
    · refine ⟨[], [(As.set k []).flatten ++ (B ++ (Rr.flatten ++ L))], [], [], ⟨ls.flatMap (flRaw g.size g.pos).enc ++ sp⟩, T, rfl, ?_, ?_⟩
      · show 0 + k * g.size + l.length ≤ (ls.flatMap (flRaw g.size g.pos).enc ++ sp).length
        rw [List.length_append, flat_length, hraw.1]
        have : (flRaw g.size g.pos).size = g.size := rfl
        rw [this]
        have := Nat.mul_le_mul_right g.size (show k + 1 ≤ ls.length by omega)
        rw [Nat.succ_mul] at this; omega
      · simp only [List.nil_append, Nat.zero_add]
        have hset' : setAt (ls.flatMap (flRaw g.size g.pos).enc ++ sp) (k * g.size) l = (ls.set k ⟨l, hraw⟩).flatMap (flRaw g.size g.pos).enc ++ sp := hset
        rw [hset']
    · have q2 := flat_lists (As.set k B) k (by simpa using (by omega : k < As.length))
      simp only [List.getElem_set_self, List.set_set] at q2
      refine ⟨L, ?_⟩
      refine perm_cnt fun a => ?_
      have c2 := q2.count_eq a
      simp only [List.count_append] at c2
      simp only [List.flatten_cons, List.flatten_nil, List.append_nil, List.count_append]
      omega
    · refine ⟨fun x hx => trivial, by rw [List.length_set]; exact hlen, _, _, by rw [List.length_set], .inr ⟨b, sp, hb, rfl, by rw [List.length_set]; exact h4, by rw [List.length_set]; exact h5⟩⟩
open Classical in
theorem rle_hole {X A1 A2 A Af Ar H : Hp} (h : A.Perm (Af ++ Ar)) : RLe (X :: A1 :: A2 :: A :: [H]) (Af :: [] :: [A1, A2, Ar, H]) := .le fun a => by
  have := h.count_eq a
  simp only [List.count_append] at this
  simp only [List.flatten_cons, List.flatten_nil, List.count_append, List.count_nil, List.append_nil, List.nil_append]
  omega
end
end Go.SX
