/-
  Literals of slices whose elements own memory; empty disks. Conditions: none.
-/
import Derived.Test.YtflfohphebmemaaGreatGa
import Derived.Test.YtflfohphebmemaaGreatSxZ
namespace Go.Proofs.YtflfohphebmemaaGreat
open Go.SX Go.Proofs
set_option maxHeartbeats 1000000

theorem glit1 {α : Type} {T : TypeId} {g : Gt α} {b : Nat} {l : List Value} {x : α} {B : Hp} (h : g.ow l x B) : (gSl T g).ow [.slice (some ⟨b, 0, none⟩) 1 1] [x] ((b, Obj.cells ⟨l⟩ T) :: B) :=
  ⟨_, [⟨l, raw_of (g.owrd h)⟩], _, [B], rfl, Ow.lit (f := flRaw g.size g.pos) (b := b) (T := T) (xs := [⟨l, raw_of (g.owrd h)⟩]) (fun _ _ => trivial) (by simp), by simp [flRaw], .cons h .nil⟩
theorem glit2 {α : Type} {T : TypeId} {g : Gt α} {b : Nat} {l1 l2 : List Value} {x y : α} {B1 B2 : Hp} (h1 : g.ow l1 x B1) (h2 : g.ow l2 y B2) : (gSl T g).ow [.slice (some ⟨b, 0, none⟩) 2 2] [x, y] ((b, Obj.cells ⟨l1 ++ l2⟩ T) :: (B1 ++ B2)) :=
  ⟨_, [⟨l1, raw_of (g.owrd h1)⟩, ⟨l2, raw_of (g.owrd h2)⟩], _, [B1, B2], rfl, Ow.lit (f := flRaw g.size g.pos) (b := b) (T := T) (xs := [⟨l1, raw_of (g.owrd h1)⟩, ⟨l2, raw_of (g.owrd h2)⟩]) (fun _ _ => trivial) (by simp), by simp [flRaw], .cons h1 (.cons h2 .nil)⟩
theorem bytesLess_irr : ∀ l : List UInt8, Op.bytesLess l l = false
  | [] => rfl
  | x :: l => by unfold Op.bytesLess; simp [bytesLess_irr l]
end Go.Proofs.YtflfohphebmemaaGreat
