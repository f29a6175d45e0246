/-
  What the texts over the laws' types share. Conditions: none.
-/
import Derived.Test.YtcnclhjhnjpeiaaDoorTy
import Derived.Test.YtcnclhjhnjpeiaaDoorSxQ
namespace Go.Proofs.YtcnclhjhnjpeiaaDoor
open Go.SX Go.Proofs

theorem mixed : Tryd.prog.follows .mixedOrders = true := by kernel_rfl
theorem rd_len {α : Type} {r : Rp α} {H : Hp} {base : Option Addr} {m cap : Nat} {xs : List α} (h : (rpSl r).rd H [.slice base m cap] xs) : m = xs.length ∧ xs.length ≤ 9223372036854775807 := by
  obtain ⟨_, _, e, h1, _⟩ := h; cases e; exact ⟨rfl, h1.2⟩
theorem rd_cap {α : Type} {r : Rp α} {H : Hp} {base : Option Addr} {m cap : Nat} {xs : List α} (h : (rpSl r).rd H [.slice base m cap] xs) : xs.length ≤ cap := by
  obtain ⟨_, _, e, h1, _⟩ := h; cases e; exact h1.1
theorem rd_el {α : Type} {r : Rp α} {H : Hp} {base : Option Addr} {m cap : Nat} {xs : List α} (h : (rpSl r).rd H [.slice base m cap] xs) (i : Nat) (hi : i < xs.length) : ∃ l, r.rd H l xs[i] := by
  obtain ⟨_, _, e, _, h2⟩ := h
  obtain ⟨_, _, l, _, _, h3⟩ := h2 i hi
  exact ⟨l, h3⟩
theorem take_step {α : Type} (xs : List α) (k : Nat) (z : α) (h : k < xs.length) : (xs.take k ++ List.replicate (xs.length - k) z).set k (xs[k]?.getD z) = xs.take (k + 1) ++ List.replicate (xs.length - (k + 1)) z := by
  rw [List.getElem?_eq_getElem h, Option.getD_some]
  obtain ⟨j, hj⟩ : ∃ j, xs.length - k = j + 1 := ⟨xs.length - k - 1, by omega⟩
  rw [List.set_append_right _ _ (by rw [List.length_take]; omega), hj, show xs.length - (k + 1) = j by omega, List.length_take, show k - min k xs.length = 0 by omega, List.replicate_succ, List.set_cons_zero, ← List.take_append_getElem h, List.append_assoc, List.singleton_append]
theorem take_stepz {α : Type} (xs : List α) (k : Nat) (z z' : α) (h : k < xs.length) : (xs.take k ++ List.replicate (xs.length - k) z').set k (xs[k]?.getD z) = xs.take (k + 1) ++ List.replicate (xs.length - (k + 1)) z' := by
  rw [← take_step xs k z' h, List.getElem?_eq_getElem h, Option.getD_some, Option.getD_some]
theorem eq_step {α : Type} {xs ys : List α} {k : Nat} (z : α) (h : xs.length = ys.length) (he : xs.take k = ys.take k) (hk : k < xs.length) (e : xs[k]?.getD z = ys[k]?.getD z) : xs.take (k + 1) = ys.take (k + 1) := by
  rw [List.getElem?_eq_getElem hk, List.getElem?_eq_getElem (by omega)] at e
  rw [← List.take_append_getElem hk, ← List.take_append_getElem (by omega : k < ys.length), he]
  have e' : xs[k] = ys[k]'(by omega) := e
  rw [e']

/-- a text's mark -/
def dgs : Nat → Nat → ByteArray → ByteArray
  | 0, _, out => out
  | f + 1, k, out => if k = 0 then out else dgs f (k / 10) (⟨#[UInt8.ofNat (48 + k % 10)]⟩ ++ out)
def mtx (k : Int) : ByteArray := if k ≤ 0 then ⟨#[109, 48]⟩ else ⟨#[109]⟩ ++ dgs 20 k.toNat .empty
def gS : Gt ByteArray := flStr.gt mtx fun s => s.size

theorem gS_ow {x : ByteArray} (h : x.size ≤ 9223372036854775807) : gS.ow [.string x] x [] := ⟨rfl, h, rfl⟩
theorem gY_owM (k : Int) : gY.ow [.int .u8 (IntKind.u8.wrap k)] (UInt8.ofNat (k % 256).toNat) [] := by
  refine ⟨?_, trivial, rfl⟩
  show [Value.int .u8 _] = [Value.int .u8 _]
  have : IntKind.u8.wrap k = ((UInt8.ofNat (k % 256).toNat).toNat : Int) := by
    unfold IntKind.wrap
    simp only [IntKind.bits, IntKind.signed]
    simp
    omega
  rw [this]
/-- what is left of a measure -/
def szR (left : Int) (s : Nat) : Int := if (s : Int) ≤ left then left - s else -1
theorem szR_pos {left : Int} {s : Nat} (h : (s : Int) ≤ left) : szR left s = left - s := if_pos h
theorem szR_neg {left : Int} {s : Nat} (h : ¬ (s : Int) ≤ left) : szR left s = -1 := if_neg h
theorem szR_lt {left : Int} {s : Nat} (_h0 : 0 ≤ left) (h : szR left s < 0) : ¬ (s : Int) ≤ left := by
  unfold szR at h; split at h <;> omega
theorem szR_ge {left : Int} {s : Nat} (h : 0 ≤ szR left s) : (s : Int) ≤ left ∧ szR left s = left - s := by
  unfold szR at h ⊢; split at h
  · rename_i h1; exact ⟨h1, if_pos h1⟩
  · omega

section
variable {α : Type}
def szE (g : Gt α) : List α → Nat
  | [] => 0
  | x :: r => g.sz x + szE g r
theorem szL_eq (g : Gt α) : ∀ xs, szL g xs = xs.length + szE g xs
  | [] => rfl
  | x :: r => by rw [szL, szE, szL_eq g r, List.length_cons]; omega
theorem szE_app (g : Gt α) : ∀ xs ys, szE g (xs ++ ys) = szE g xs + szE g ys
  | [], ys => by simp [szE]
  | x :: r, ys => by simp [szE, szE_app g r]; omega
theorem szE_step (g : Gt α) (xs : List α) (k : Nat) (z : α) (h : k < xs.length) : szE g (xs.take (k + 1)) = szE g (xs.take k) + g.sz (xs[k]?.getD z) := by
  rw [← List.take_append_getElem h, szE_app, List.getElem?_eq_getElem h]; rfl
theorem szE_le (g : Gt α) (xs : List α) (k : Nat) : szE g (xs.take k) ≤ szE g xs := by
  conv => rhs; rw [← List.take_append_drop k xs]
  rw [szE_app]; omega
theorem szE_zero (g : Gt α) (h : ∀ x, g.sz x = 0) : ∀ xs, szE g xs = 0
  | [] => rfl
  | x :: r => by rw [szE, h, szE_zero g h r]

theorem pair_at {β : Type} {g : Gt α} {h : Gt β} {H : Hp} {cs : List Value} {off : Nat} {x : α} {y : β} (h1 : g.rd H ((cs.drop off).take g.size) x) (h2 : h.rd H ((cs.drop (off + g.size)).take h.size) y) :
    (gPair g h).rd H ((cs.drop off).take (g.size + h.size)) (x, y) := by
  refine ⟨_, _, ?_, h1, h2⟩
  rw [List.take_add, List.drop_drop]
end
end Go.Proofs.YtcnclhjhnjpeiaaDoor
