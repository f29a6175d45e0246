/-
  A bag's text is read: what the numbers in it are. Plain. Conditions: none.
-/
import Derived.Test.YtflfohphebmemaaGreatRa
import Derived.Test.YtflfohphebmemaaGreatJs
import Derived.Test.YtflfohphebmemaaGreatIx
namespace Go.Proofs.YtflfohphebmemaaGreat
open Go.SX Go.Proofs
set_option maxHeartbeats 1000000

def BagOf (t : ByteArray) (b : Bag) : Prop := bagM b = true ∧ t = tx (bagBytes b)
theorem varT_toNat {n : Int} (h : 0 ≤ n) : varT n = varT (n.toNat : Nat) := by rw [Int.toNat_of_nonneg h]
theorem sc_enc {t : ByteArray} {P rest : List UInt8} {n : Int} (h : by' t = P ++ (varT n ++ rest)) (h0 : 0 ≤ n) (h1 : n ≤ 1000000000) : scNum t (P.length, false) = (n.toNat, (P.length + (varT n).length, false)) := by
  have h2 := readVar_enc (t := t) (p := P.length) (m := n.toNat) (rest := rest) (by rw [h, List.drop_left, ← varT_toNat h0]) (by omega)
  rw [← varT_toNat h0] at h2
  rw [scNum_yes (s := (P.length, false)) (by rw [h2]) rfl, h2]
/-- what stands ahead of item i, of place j of its row, of its times -/
def preI (b : Bag) (i : Nat) : List UInt8 := varT b.items.length ++ (b.items.take i).flatMap itemBytes
def preR (b : Bag) (i j : Nat) : List UInt8 := preI b i ++ (varT (b.items[i]?.getD default).row.length ++ rowBytes ((b.items[i]?.getD default).row.take j))
theorem bag_split {b : Bag} {i : Nat} (hi : i < b.items.length) : bagBytes b = preI b i ++ (itemBytes (b.items[i]?.getD default) ++ (b.items.drop (i + 1)).flatMap itemBytes) := by
  have e : b.items = b.items.take i ++ (b.items[i] :: b.items.drop (i + 1)) := by rw [List.getElem_cons_drop, List.take_append_drop]
  unfold bagBytes preI
  rw [List.getElem?_eq_getElem hi, Option.getD_some, List.append_assoc]
  conv => lhs; rw [show b.items.flatMap itemBytes = (b.items.take i ++ (b.items[i] :: b.items.drop (i + 1))).flatMap itemBytes by rw [← e]]
  rw [List.flatMap_append, List.flatMap_cons]
theorem by_bag {t : ByteArray} {b : Bag} (h : BagOf t b) : by' t = bagBytes b := by rw [h.2, by_tx]
theorem sc_count {t : ByteArray} {b : Bag} (h : BagOf t b) : scNum t (0, false) = (b.items.length, ((preI b 0).length, false)) := by
  have hr := bag_rng h.1
  have h2 := sc_enc (t := t) (P := []) (n := (b.items.length : Nat)) (rest := b.items.flatMap itemBytes) (by rw [by_bag h]; rfl) (Int.natCast_nonneg _) (by omega)
  rw [List.length_nil] at h2
  rw [h2]
  unfold preI
  simp
theorem sc_wide {t : ByteArray} {b : Bag} (h : BagOf t b) {i : Nat} (hi : i < b.items.length) : scNum t ((preI b i).length, false) = ((b.items[i]?.getD default).row.length, ((preR b i 0).length, false)) := by
  have hr := (bag_rng h.1).2 i hi
  have h2 := sc_enc (t := t) (P := preI b i) (n := ((b.items[i]?.getD default).row.length : Nat)) (rest := rowBytes (b.items[i]?.getD default).row ++ varT (b.items[i]?.getD default).times ++ (b.items.drop (i + 1)).flatMap itemBytes) (by
    rw [by_bag h, bag_split hi]; unfold itemBytes; simp only [List.append_assoc]) (Int.natCast_nonneg _) (by omega)
  rw [h2]
  unfold preR rowBytes
  simp
theorem row_split {r : List Int} {j : Nat} (hj : j < r.length) : rowBytes r = rowBytes (r.take j) ++ (varT (r[j]?.getD 0) ++ rowBytes (r.drop (j + 1))) := by
  have e : r = r.take j ++ (r[j] :: r.drop (j + 1)) := by rw [List.getElem_cons_drop, List.take_append_drop]
  unfold rowBytes
  rw [List.getElem?_eq_getElem hj, Option.getD_some]
  conv => lhs; rw [show r.flatMap varT = (r.take j ++ (r[j] :: r.drop (j + 1))).flatMap varT by rw [← e]]
  rw [List.flatMap_append, List.flatMap_cons]
theorem sc_row {t : ByteArray} {b : Bag} (h : BagOf t b) {i : Nat} (hi : i < b.items.length) {j : Nat} (hj : j < (b.items[i]?.getD default).row.length) : scNum t ((preR b i j).length, false) = (((b.items[i]?.getD default).row[j]?.getD 0).toNat, ((preR b i (j + 1)).length, false)) := by
  have hr := ((bag_rng h.1).2 i hi).2.1 j hj
  have h2 := sc_enc (t := t) (P := preR b i j) (n := (b.items[i]?.getD default).row[j]?.getD 0) (rest := rowBytes ((b.items[i]?.getD default).row.drop (j + 1)) ++ varT (b.items[i]?.getD default).times ++ (b.items.drop (i + 1)).flatMap itemBytes) (by
    rw [by_bag h, bag_split hi]; unfold itemBytes preR; rw [row_split hj]; simp only [List.append_assoc]) hr.1 (by omega)
  rw [h2]
  have e : (preR b i (j + 1)).length = (preR b i j).length + (varT ((b.items[i]?.getD default).row[j]?.getD 0)).length := by
    unfold preR rowBytes
    rw [flat_step 0 hj]
    simp only [List.length_append]; omega
  rw [e]
theorem sc_times {t : ByteArray} {b : Bag} (h : BagOf t b) {i : Nat} (hi : i < b.items.length) : scNum t ((preR b i (b.items[i]?.getD default).row.length).length, false) = ((b.items[i]?.getD default).times.toNat, ((preI b (i + 1)).length, false)) := by
  have hr := ((bag_rng h.1).2 i hi).2.2
  have h2 := sc_enc (t := t) (P := preR b i (b.items[i]?.getD default).row.length) (n := (b.items[i]?.getD default).times) (rest := (b.items.drop (i + 1)).flatMap itemBytes) (by
    rw [by_bag h, bag_split hi]; unfold itemBytes preR; rw [List.take_length]; simp only [List.append_assoc]) (by omega) (by omega)
  rw [h2]
  have e : (preI b (i + 1)).length = (preR b i (b.items[i]?.getD default).row.length).length + (varT (b.items[i]?.getD default).times).length := by
    unfold preI preR
    rw [flat_step default hi, List.take_length, show itemBytes (b.items[i]?.getD default) = varT (b.items[i]?.getD default).row.length ++ (rowBytes (b.items[i]?.getD default).row ++ varT (b.items[i]?.getD default).times) from rfl]
    unfold preI
    simp only [List.length_append]; omega
  rw [e]
theorem pre_end {t : ByteArray} {b : Bag} (h : BagOf t b) : (preI b b.items.length).length = t.size := by
  rw [← by_size t, by_bag h]
  unfold preI bagBytes
  rw [List.take_length]
open Classical in
/-- what is read of a text -/
noncomputable def rbOk (t : ByteArray) : Bool := decide (∃ b, BagOf t b)
open Classical in
noncomputable def rbR (t : ByteArray) : Bag := if h : ∃ b, BagOf t b then h.choose else zBag
open Classical in
theorem rb_no {t : ByteArray} (h : ∀ b, ¬ BagOf t b) : rbOk t = false ∧ rbR t = zBag := by
  have h2 : ¬ ∃ b, BagOf t b := fun ⟨b, hb⟩ => h b hb
  exact ⟨by unfold rbOk; exact decide_eq_false h2, by unfold rbR; rw [dif_neg h2]⟩
open Classical in
theorem rb_yes {t : ByteArray} {b : Bag} (h : BagOf t b) (hu : ∀ c, BagOf t c → b = c) : rbOk t = true ∧ rbR t = b := by
  have h2 : ∃ b, BagOf t b := ⟨b, h⟩
  refine ⟨by unfold rbOk; exact decide_eq_true h2, ?_⟩
  unfold rbR
  rw [dif_pos h2]
  exact (hu _ h2.choose_spec).symm

end Go.Proofs.YtflfohphebmemaaGreat
